import Derived.Test.YtjdbbnhnbdocbaaGreatMgGon27
import Derived.Test.YtjdbbnhnbdocbaaGreatMgGon33
import Derived.Test.YtjdbbnhnbdocbaaGreatMgGon26
import Derived.Test.YtjdbbnhnbdocbaaGreatMgGon29
namespace Go.Tn.Ino
open Go.RowKit Go.Tn.Bt Go.Tn.Dr
theorem ino_back {x:Ino} (hf:x.fits) (hr:x.right=true):inoOf x.sec=some x:=by
 have hl:=hf.len
 have hbl:=Ino.bits_len hl
 have hZ:unpack x.sec=x.bits++List.replicate (1024-x.bits.length) false:=unpack_secD (by rw [hbl];decide)
 obtain ⟨k,g,v,bl⟩:=x
 obtain ⟨Z,hZe⟩: ∃Z,List.replicate (1024-(Ino.mk k g v bl).bits.length) false=Z:=⟨_,rfl⟩
 rw [hZe] at hZ
 obtain ⟨U,hU⟩: ∃U,unpack (Ino.mk k g v bl).sec=U:=⟨_,rfl⟩
 rw [hU] at hZ
 have h1:rdN U 0 2=k:=rdN_at' (A:= []) (Z:=bitsN g 31++(bitsN v 40++(bl.flatMap (bitsN · 12)++Z))) hf.kind (by rw [hZ];simp [Ino.bits]) rfl
 have h2:rdN U 2 31=g:=rdN_at' (A:=bitsN k 2) (Z:=bitsN v 40++(bl.flatMap (bitsN · 12)++Z)) hf.gen (by rw [hZ];simp [Ino.bits]) (by rw [bitsN_len])
 have h3:rdN U 33 40=v:=rdN_at' (A:=bitsN k 2++bitsN g 31) (Z:=bl.flatMap (bitsN · 12)++Z) hf.ver (by rw [hZ];simp [Ino.bits]) (by rw [List.length_append,bitsN_len,bitsN_len])
 have h4:((List.range 8).map fun j=>rdN U (73+12*j) 12)=bl:=by
  apply List.ext_getElem
  ·simp;exact hl.symm
  ·intro j a1 a2
   rw [List.getElem_map,List.getElem_range]
   have hj:j<8:=by have h:=a2;simp only at hl;omega
   have hsp:bl=bl.take j++(bl[j]'a2::bl.drop (j+1)):=by
    rw [List.getElem_cons_drop,List.take_append_drop]
   generalize hc:bl[j]'a2=c at*
   have hc12:c<2 ^ 12:=by
    rw [←hc]
    exact hf.bl _ (List.getElem_mem _)
   refine rdN_at' (A:=bitsN k 2++bitsN g 31++bitsN v 40++(bl.take j).flatMap (bitsN · 12)) (Z:=(bl.drop (j+1)).flatMap (bitsN · 12)++Z) hc12 ?_ ?_
   ·rw [hZ]
    show bitsN k 2++bitsN g 31++bitsN v 40++bl.flatMap (bitsN · 12)++Z=_
    conv=>lhs;rw [hsp]
    rw [List.flatMap_append,List.flatMap_cons]
    simp
   ·simp only at hl
    simp only [List.length_append,bitsN_len,Dr.bflat_len,List.length_take,hl]
    omega
 have hat:inoAt (Ino.mk k g v bl).sec=Ino.mk k g v bl:=by
  show Ino.mk (natOf (((unpack (Ino.mk k g v bl).sec).drop 0).take 2)) (natOf (((unpack (Ino.mk k g v bl).sec).drop 2).take 31)) (natOf (((unpack (Ino.mk k g v bl).sec).drop 33).take 40)) ((List.range 8).map fun j=>natOf (((unpack (Ino.mk k g v bl).sec).drop (73+12*j)).take 12))=_
  rw [hU]
  rw [show natOf ((U.drop 0).take 2)=k from h1,show natOf ((U.drop 2).take 31)=g from h2,show natOf ((U.drop 33).take 40)=v from h3]
  rw [show ((List.range 8).map fun j=>natOf ((U.drop (73+12*j)).take 12))=bl from h4]
 unfold inoOf
 rw [hat,if_pos ⟨hr,rfl⟩]
end Go.Tn.Ino
namespace Go.Proofs.YtjdbbnhnbdocbaaGreat
open Go.RowKit Go.Tn Go.Tn.Bt Go.Tn.Lp Go.Tn.Dk Go.Tn.Ino Go.Tn.Dr Go.Tn.Fm Go.Tn.Names
structure NdOk (x:Nd):Prop where
 gen:x.gen≤2147483647
 ver:x.ver≤1099511627775
 dl:x.D.length=8
 knd:x.kind=0∧x.ver=0∧x.L= []∧(∀t∈x.D,t=emp)∨x.kind=1∧(∀e∈x.L,Ent.ok e)∧Dr.Rise x.L∧x.L.length≤24∧(∀t∈x.D,t=emp)∨x.kind=2∧x.L= []∧ ∀t∈x.D,t.size≤64
structure Sm where
 N:Nat→Nd
 P:Nat→List Nat
 rcd:List Nat
def Sm.ino (M:Sm) (j:Nat):Ino:=⟨(M.N j).kind,(M.N j).gen,(M.N j).ver,M.P j⟩
def Sm.W (M:Sm):Nat→Nat→Option (List Nat):=fun j k=>(M.N j).blk k
structure Rep (n:Nat) (V:Nat→List Nat) (M:Sm):Prop where
 rcd:V 0=M.rcd
 map:V 1=mapSec (takenP M.P)
 ino: ∀j,1≤j→j<41→V (1+j)=(M.ino j).sec
 mid:Mid n (takenP M.P) V M.P M.W
 nd: ∀j,NdOk (M.N j)
 n1:46≤n
 n2:n≤1024
section
variable {n:Nat} {V:Nat→List Nat} {M:Sm} {j:Nat}
theorem blk_none {x:Nd} (h:NdOk x) (hk:x.kind=0) (k:Nat):x.blk k=none:=by
 unfold Nd.blk
 rw [if_neg (by omega),if_neg (by omega)]
theorem Rep.fits (h:Rep n V M) (j:Nat):(M.ino j).fits:=by
 have hn:=h.nd j
 refine ⟨?_,?_,?_,h.mid.len j,fun p hp=> ?_⟩
 ·show (M.N j).kind<4
  rcases hn.knd with h|h|h<;>omega
 ·show (M.N j).gen<2147483648
  have:=hn.gen
  omega
 ·show (M.N j).ver<1099511627776
  have:=hn.ver
  omega
 ·by_cases h0:p=0
  ·omega
  ·have:=(h.mid.lo j p hp h0).2
   have:=h.n2
   omega
theorem Rep.right (h:Rep n V M) (j:Nat):(M.ino j).right=true:=by
 have hn:=h.nd j
 unfold Ino.right Sm.ino
 simp only
 rcases hn.knd with ⟨hk,hv,hL,hD⟩|h1|h1
 ·rw [if_neg (by omega),if_pos hk,hv]
  simp only [decide_true,Bool.true_and,List.all_eq_true,beq_iff_eq]
  intro p hp
  obtain ⟨k,hk'⟩:=List.mem_iff_getElem?.1 hp
  apply Classical.byContradiction
  intro h0
  exact ((h.mid.has j k p hk').1 h0) (blk_none hn hk k)
 ·rw [if_pos (.inl h1.1)]
 ·rw [if_pos (.inr h1.1)]
theorem Rep.dec (h:Rep n V M) (h1:1≤j) (h2:j<41):inoOf (V (1+j))=some (M.ino j):=by
 rw [h.ino j h1 h2]
 exact ino_back (h.fits j) (h.right j)
theorem Rep.taken (h:Rep n V M):takenB (V 1) n∧ ∀i,i<1024→mapT (V 1) i=takenP M.P i:=by
 have hT: ∀i,i<1024→mapT (V 1) i=takenP M.P i:=fun i hi=>by
  rw [h.map]
  have hout: ∀i,1024≤i→takenP M.P i=false:=fun i hi=>by
   cases hc:takenP M.P i with
   | false=>rfl
   | true=>
    rcases takenP_iff.1 hc with h1|⟨j, -,h2⟩
    ·omega
    ·have:=(h.mid.lo j i h2 (by omega)).2
     have:=h.n2
     omega
  unfold mapT mapSec
  have e: ∀q,q<128→((List.range 128).map (Al.by8 (takenP M.P))).getD q 0=Al.by8 (takenP M.P) q:=fun q hq=>by
   simp [List.getD,hq]
  have hlt:i/8<128:=by omega
  unfold Al.homesOf
  rw [decide_eq_true hi,Bool.true_and]
  show (((List.range 128).map (Al.by8 (takenP M.P))).getD (i/8) 0).testBit (7-i %8)=_
  rw [e _ hlt]
  unfold Al.by8
  rw [Bits.testBit_num,decide_eq_true (by omega),Bool.true_and]
  congr 1
  omega
 refine ⟨fun j hj hn=> ?_,hT⟩
 rw [hT j hj]
 cases hc:takenP M.P j with
 | false=>rfl
 | true=>
  rcases takenP_iff.1 hc with h1|⟨j', -,h2⟩
  ·have:=h.n1
   omega
  ·have:=(h.mid.lo j' j h2 (by have:=h.n1;omega)).2
   omega
end
structure SAt (w:World) (F FD:Nat→Prop) (s g p:Nat) (l:Lg) (d:Dsk) (M:Sm):Prop where
 fs:Fs w F FD s g p l d
 ok:l.ok d
 rep:Rep (l.homes d) (l.home d) M
section
variable {w w':World} {F FD:Nat→Prop} {s g p:Nat} {l:Lg} {d:Dsk} {M:Sm}
theorem SAt.below (h:SAt w F FD s g p l d M) (hb:Below w.heap.size w w'):SAt w' F FD s g p l d M:=⟨h.fs.below hb,h.ok,h.rep⟩
def placesI (bl:List Nat):List Int:=(bl.filter (· ≠0)).map fun (x:Nat)=>(x:Int)
theorem placesI_snoc {bl:List Nat} {k q:Nat} (h:bl[k]?=some q):placesI (bl.take (k+1))=placesI (bl.take k)++(if q=0 then [] else [(q:Int)]):=by
 unfold placesI
 rw [List.take_add_one,h,List.filter_append,List.map_append]
 congr 1
 by_cases hq:q=0
 ·rw [if_pos hq,hq]
  rfl
 ·rw [if_neg hq]
  simp [hq]
theorem placesI_len (bl:List Nat):(placesI bl).length≤bl.length:=by
 unfold placesI
 rw [List.length_map]
 exact List.length_filter_le _ _
set_option maxRecDepth 20000 in
set_option maxHeartbeats 2000000 in
theorem iplaces_any (w:World) (x:Ino) (h:x.bl.length=8):Calls Tryz.prog 18 #[.agg (inoC x)] w
  fun e w'=> ∃v,e= .returned v∧LOut enI 1 3 w.heap.size w' v (placesI x.bl)∧Below w.heap.size w w':=by
 obtain ⟨w1,hw1⟩: ∃w1,w.alloc (.cells (inoC x) 52)=w1:=⟨_,rfl⟩
 have hb1:Below w.heap.size w w1:=by rw [←hw1];exact (Below.refl _ _).alloc (Nat.le_refl _) _
 have hL:Lies w1 w.heap.size 0 (inoC x):=lies_of (by rw [←hw1];exact heap_alloc_at)
 have hLP:=Lies.places hL
 have hap:=aggPl h
 have HB1:=Lib.hid hb1
 have HX:=Lib.hid h
 clear hL hb1 h
 go_enter Tryz.func18,Tryz.ntmps18
 go_upto_region 1 with fail
 simp only [hw1] at*
 clear hw1
 go_wp2_with (first
  | ((with_reducible refine wpList_loadA hap hLP ?_ ?_);rfl;go_frame)
  | fail)
 clear hLP
 go_loopw [3,8] (fun ov iv wi=> ∃k:Nat,k≤8∧iv= .int .i64 k∧LOut enI 1 3 w.heap.size wi ov (placesI (x.bl.take k))∧Below w.heap.size w wi) (fun _ iv _=>8-(intOf iv).toNat)
 case atStart=>exact ⟨0,by omega,rfl,by simpa [placesI] using LOut.nil HB1.out.size,HB1.out⟩
 case round=>
  obtain ⟨k,hk,rfl,hO,hb⟩:=hrel
  have HB:=Lib.hid hb
  have HO:=Lib.hid hO
  obtain ⟨oa,on,oc,hov⟩:=hO.shape
  subst hov
  by_cases hk8:k<8
  ·have hk8':(k:Int)<8:=by omega
   obtain ⟨q,hq⟩: ∃q,x.bl[k]?=some q:=⟨_,List.getElem?_eq_getElem (by rw [HX.out];exact hk8)⟩
   have hpg:=plC_get hq
   have hsn:=placesI_snoc hq
   have hol:(placesI (x.bl.take k)).length≤1000:=by have:=placesI_len (x.bl.take k);rw [List.length_take] at this;omega
   have HSN:=Lib.hid hsn
   clear hb hq hsn
   by_cases hq0:q=0
   ·have hz:((q:Int) !=0)=false:=by rw [hq0];rfl
    have HQ:=Lib.hid hq0
    clear hq0 hO
    go_wp2_with (first
     | ((with_reducible refine wpList_exec rfl (exec_index1 Tryz.underlying50 scalarInt sizeInt (k:= .i64) (i:=k) ?_ ?_ hk8 hpg) ?_);rfl;rfl;go_frame)
     | fail)
    go_roundw
    case rel=>exact ⟨k+1,by omega,by go_num,by rw [HSN.out,if_pos HQ.out,List.append_nil];exact HO.out,HB.out⟩
    case measure=>simp [intOf];omega
   ·have hz:((q:Int) !=0)=true:=by rw [bne_iff_ne];omega
    have HQ:=Lib.hid hq0
    clear hq0
    go_wp2_with (first
     | ((with_reducible refine wpList_exec rfl (exec_index1 Tryz.underlying50 scalarInt sizeInt (k:= .i64) (i:=k) ?_ ?_ hk8 hpg) ?_);rfl;rfl;go_frame)
     | ((with_reducible refine wpList_append1 elI hO (q:Int) hol ?_ ?_ ?_ ?_);rfl;rfl;rfl;(intro v9 w9 hO9 hb9;have HO9:=Lib.hid hO9;have HB9:=Lib.hid (HB.out.trans hb9);clear hO9 hb9);go_frame)
     | fail)
    go_roundw
    case rel=>exact ⟨k+1,by omega,by go_num,by rw [HSN.out,if_neg HQ.out];exact HO9.out,HB9.out⟩
    case measure=>simp [intOf];omega
  ·obtain rfl:k=8:=by omega
   rw [List.take_of_length_le (by rw [HX.out];exact Nat.le_refl _)] at hO
   have HO2:=Lib.hid hO
   clear hO
   go_wp2
   go_ret
   exact ⟨_,rfl,HO2.out,HB.out⟩
theorem iused_any (w:World) (x:Ino) (h:x.bl.length=8):Calls Tryz.prog 69 #[.agg (inoC x)] w
  fun e w'=>e= .returned (.int .i64 ((placesI x.bl).length:Nat))∧Below w.heap.size w w':=by
 obtain ⟨w1,hw1⟩: ∃w1,w.alloc (.cells (inoC x) 52)=w1:=⟨_,rfl⟩
 have hb1:Below w.heap.size w w1:=by rw [←hw1];exact (Below.refl _ _).alloc (Nat.le_refl _) _
 have hL:Lies w1 w.heap.size 0 (inoC x):=lies_of (by rw [←hw1];exact heap_alloc_at)
 have hag:=aggI h
 have hpl:=iplaces_any w1 x h
 have HB1:=Lib.hid hb1
 clear hb1
 go_enter Tryz.func69,Tryz.ntmps69
 go_upto_region 1 with fail
 simp only [hw1] at*
 clear hw1
 go_wp2_with (first
  | ((with_reducible refine wpList_loadA hag hL ?_ ?_);rfl;go_frame)
  | fail)
 refine hpl.mono ?_
 rintro e w2 ⟨v2,rfl,hO2,hb2⟩
 have HB2:=Lib.hid (HB1.out.trans (hb2.mono HB1.out.size))
 obtain ⟨ao,cap,rfl, -⟩:=hO2.sl elI.len
 clear hpl hO2 hb2
 go_wp2
 go_ret
 exact ⟨rfl,HB2.out⟩
def Sm.there (M:Sm) (f:Int×Int):Option Nat:=if 1≤f.1∧f.1≤40∧(M.N f.1.toNat).kind≠0∧((M.N f.1.toNat).gen:Int)=f.2 then some f.1.toNat else none
theorem there_some {f:Int×Int} {j:Nat} (h:M.there f=some j):1≤j∧j<41∧f=((j:Int),((M.N j).gen:Int))∧(M.N j).kind≠0:=by
 unfold Sm.there at h
 split at h
 ·rename_i hc
  obtain ⟨h1,h2,h3,h4⟩:=hc
  cases h
  obtain ⟨a,b⟩:=f
  simp only at h1 h2 h3 h4 ⊢
  exact ⟨by omega,by omega,by rw [←h4];congr 1;omega,h3⟩
 ·cases h
def ThereR (M:Sm) (f:Int×Int) (e:Ending):Prop:=match M.there f with
 | some j=>e= .returned (.tuple #[.agg (inoC (M.ino j)), .int .i64 0])
 | none=> ∃x:Ino,x.bl.length=8∧e= .returned (.tuple #[.agg (inoC x), .int .i64 14])
theorem aggFl (i g:Int):AggT Tryz.prog 33 (#[.int .i64 i, .int .i64 g]:Array Value).size:=⟨⟨_,Tryz.underlying33,rfl⟩,by kernel_rfl⟩
set_option maxRecDepth 20000 in
set_option maxHeartbeats 4000000 in
theorem fthere_any (h:SAt w F FD s g p l d M) (f:Int×Int):Calls Tryz.prog 68 #[.pointer (some ⟨s,0,none⟩), .agg #[.int .i64 f.1, .int .i64 f.2]] w
  fun e w'=>ThereR M f e∧Below w.heap.size w w':=by
 obtain ⟨fi,fg⟩:=f
 obtain ⟨w1,hw1⟩: ∃w1,w.alloc (.cells #[.int .i64 fi, .int .i64 fg] 33)=w1:=⟨_,rfl⟩
 have hb1:Below w.heap.size w w1:=by rw [←hw1];exact (Below.refl _ _).alloc (Nat.le_refl _) _
 have hX1:w1.heap[w.heap.size]?=some (.cells #[.int .i64 fi, .int .i64 fg] 33 (0,0)):=by rw [←hw1];exact heap_alloc_at
 have hz1:w1.heap.size=w.heap.size+1:=by rw [←hw1];simp
 obtain ⟨w2,hw2⟩: ∃w2,w1.alloc (.cells (inoC (Ino.free 0)) 52)=w2:=⟨_,rfl⟩
 have hb2:Below w1.heap.size w1 w2:=by rw [←hw2];exact (Below.refl _ _).alloc (Nat.le_refl _) _
 have hX2:w2.heap[w1.heap.size]?=some (.cells (inoC (Ino.free 0)) 52 (0,0)):=by rw [←hw2];exact heap_alloc_at
 have hb12:=hb1.trans (hb2.mono hb1.size)
 have hF2:w2.heap[w.heap.size]?=some (.cells #[.int .i64 fi, .int .i64 fg] 33 (0,0)):=(hb2.block _ (lt_of_block hX1)).trans hX1
 have q0:w2.cell? ⟨w.heap.size,0,none⟩=some (.int .i64 fi):=cell_of hF2 rfl
 have h2:=h.below hb12
 have hok:=fsok_any h2.fs
 have hag1:=aggI (x:=Ino.free 0) rfl
 have hone0:=inoC_one (Ino.free 0)
 have H2:=Lib.hid h2
 have HB:=Lib.hid hb12
 have hs2:w2.heap.size=w.heap.size+2:=by rw [←hw2];simp [hz1]
 have HZ1:=Lib.hid hz1
 have HX2:=Lib.hid hX2
 have HF2:=Lib.hid hF2
 have HZ:=Lib.hid hs2
 rw [inoC_free] at hw2
 clear h hb1 hX1 hb2 hX2 hb12 hF2 h2 hz1 hs2
 by_cases hr:1≤fi∧fi≤40
 ·obtain ⟨hr1,hr2⟩:=hr
  obtain ⟨j,rfl⟩:=Int.eq_ofNat_of_zero_le (show 0≤fi by omega)
  have hj1:1≤j:=by omega
  have hj2:j<41:=by omega
  have hd:=H2.out.rep.dec hj1 hj2
  have hin:=finode_any H2.out.fs H2.out.ok j (by have:=H2.out.rep.n1;omega)
  rw [hd] at hin
  have hx8:(M.ino j).bl.length=8:=H2.out.rep.mid.len j
  obtain ⟨x,hx⟩: ∃x,M.ino j=x:=⟨_,rfl⟩
  have HXJ:=Lib.hid hx
  rw [hx] at hin hx8
  have hag:=aggI hx8
  have hone:=inoC_one x
  have hszx:(inoC (Ino.free 0)).size=(inoC x).size:=by rw [inoC_size rfl,inoC_size hx8]
  have hsz11:(inoC x).size=11:=inoC_size hx8
  have HX8:=Lib.hid hx8
  clear hd hx hx8
  go_enter Tryz.func68,Tryz.ntmps68
  go_upto_region 1 with fail
  simp only [hw1,hw2,Int.natCast_zero] at*
  clear hw1 hw2
  go_wp2_with (first
   | (go_at_call 71;refine hok.mono ?_;rintro e2 wt ⟨rfl,hw⟩;obtain rfl:=hw.symm;clear hw)
   | fail)
  refine hin.mono ?_
  rintro e w3 ⟨rfl,hb3⟩
  have hb3':=HB.out.trans (hb3.mono HB.out.size)
  have hres:=(hb3.block _ (lt_of_block HX2.out)).trans HX2.out
  have hfb:=(hb3.block _ (lt_of_block HF2.out)).trans HF2.out
  have hs3:w.heap.size+2≤w3.heap.size:=by have h1:=hb3.size;have h2:=HZ.out;omega
  obtain ⟨w4,hw4⟩: ∃w4,w3.alloc (.cells (inoC x) 52)=w4:=⟨_,rfl⟩
  have hb4:Below w3.heap.size w3 w4:=by rw [←hw4];exact (Below.refl _ _).alloc (Nat.le_refl _) _
  have hX4:w4.heap[w3.heap.size]?=some (.cells (inoC x) 52 (0,0)):=by rw [←hw4];exact heap_alloc_at
  have hres4:=(hb4.block _ (lt_of_block hres)).trans hres
  have hfb4:=(hb4.block _ (lt_of_block hfb)).trans hfb
  have q0:w4.cell? ⟨w3.heap.size,0,none⟩=some (.int .i64 (x.kind:Nat)):=cell_of hX4 rfl
  have q1:w4.cell? ⟨w3.heap.size,1,none⟩=some (.int .i64 (x.gen:Nat)):=cell_of hX4 rfl
  have q2:w4.cell? ⟨w.heap.size,1,none⟩=some (.int .i64 fg):=cell_of hfb4 rfl
  have hL4:Lies w4 w3.heap.size 0 (inoC x):=lies_of hX4
  have HB4:=Lib.hid (hb3'.trans (hb4.mono hb3'.size))
  have hdec:decI (some x)= .tuple #[.agg (inoC x), .int .i64 0]:=rfl
  rw [hdec]
  clear hin hb3 hb3' hres hfb hb4 hX4 hfb4 hdec hok
  go_upto_region 6 with (first
   | ((with_reducible refine wpList_storeA_new hag ?_ hone ?_ ?_ ?_);(rw [hsz11];rfl);rfl;rfl;go_frame)
   | fail)
  simp only [hw4] at*
  clear hw4
  have hkd:(M.N j).kind=x.kind:=by rw [←HXJ.out];rfl
  have hgn:(M.N j).gen=x.gen:=by rw [←HXJ.out];rfl
  have hth:M.there ((j:Int),fg)=if x.kind≠0∧(x.gen:Int)=fg then some j else none:=by
   unfold Sm.there
   simp only [Int.toNat_natCast,hkd,hgn]
   by_cases hc:x.kind≠0∧(x.gen:Int)=fg
   ·rw [if_pos hc,if_pos ⟨by omega,by omega,hc⟩]
   ·rw [if_neg hc,if_neg (fun e=>hc e.2.2)]
  have HTH:=Lib.hid hth
  clear hkd hgn hth
  by_cases hk0:x.kind=0
  ·have hk1:((x.kind:Int)==0)=true:=by rw [hk0];rfl
   have HK0:=Lib.hid hk0
   clear hk0
   go_wp2_with (first
    | ((with_reducible refine wpList_loadA hag hL4 ?_ ?_);rfl;go_frame)
    | ((with_reducible refine wpList_storeB hag ?_ ?_ hres4 hszx hone ?_);rfl;rfl;(intro w9 hh9 hm9;have HH9:=Lib.hid hh9;have HM9:=Lib.hid hm9;clear hh9 hm9);go_frame)
    | fail)
   refine bodyPost_ret (results_cellT rfl _ rfl hag (lies_of HH9.out)) rfl ?_
   refine ⟨?_,HB4.out.trans (HM9.out.below HB4.out.size fun y hy e=>by have h1:=HZ1.out;omega)⟩
   unfold ThereR
   rw [HTH.out,if_neg (fun e=>e.1 HK0.out)]
   exact ⟨x,HX8.out,rfl⟩
  ·have hk1:((x.kind:Int)==0)=false:=beq_eq_false_iff_ne.2 (by omega)
   by_cases hg0:(x.gen:Int)=fg
   ·have hg1:((x.gen:Int) !=fg)=false:=by rw [hg0];simp
    have HG0:=Lib.hid (And.intro hk0 hg0)
    clear hk0 hg0
    go_wp2_with (first
     | ((with_reducible refine wpList_loadA hag hL4 ?_ ?_);rfl;go_frame)
     | ((with_reducible refine wpList_storeB hag ?_ ?_ hres4 hszx hone ?_);rfl;rfl;(intro w9 hh9 hm9;have HH9:=Lib.hid hh9;have HM9:=Lib.hid hm9;clear hh9 hm9);go_frame)
     | fail)
    refine bodyPost_ret (results_cellT rfl _ rfl hag (lies_of HH9.out)) rfl ?_
    refine ⟨?_,HB4.out.trans (HM9.out.below HB4.out.size fun y hy e=>by have h1:=HZ1.out;omega)⟩
    unfold ThereR
    rw [HTH.out,if_pos HG0.out]
    show _=Ending.returned (.tuple #[.agg (inoC (M.ino j)), .int .i64 0])
    rw [HXJ.out]
    rfl
   ·have hg1:((x.gen:Int) !=fg)=true:=bne_iff_ne.2 hg0
    have HG0:=Lib.hid hg0
    clear hk0 hg0
    go_wp2_with (first
     | ((with_reducible refine wpList_loadA hag hL4 ?_ ?_);rfl;go_frame)
     | ((with_reducible refine wpList_storeB hag ?_ ?_ hres4 hszx hone ?_);rfl;rfl;(intro w9 hh9 hm9;have HH9:=Lib.hid hh9;have HM9:=Lib.hid hm9;clear hh9 hm9);go_frame)
     | fail)
    refine bodyPost_ret (results_cellT rfl _ rfl hag (lies_of HH9.out)) rfl ?_
    refine ⟨?_,HB4.out.trans (HM9.out.below HB4.out.size fun y hy e=>by have h1:=HZ1.out;omega)⟩
    unfold ThereR
    rw [HTH.out,if_neg (fun e=>HG0.out e.2)]
    exact ⟨x,HX8.out,rfl⟩
 ·have hth:M.there (fi,fg)=none:=by
   unfold Sm.there
   rw [if_neg (fun e=>hr ⟨e.1,e.2.1⟩)]
  have HTH:=Lib.hid hth
  have hres:=HX2.out
  clear hth
  by_cases hr1:fi<1
  ·have hr2:decide (fi<1)=true:=decide_eq_true hr1
   clear hr
   go_enter Tryz.func68,Tryz.ntmps68
   go_upto_region 1 with fail
   simp only [hw1,hw2,Int.natCast_zero] at*
   clear hw1 hw2
   go_wp2_with (first
    | (go_at_call 71;refine hok.mono ?_;rintro e2 wt ⟨rfl,hw⟩;obtain rfl:=hw.symm;clear hw)
    | ((with_reducible refine wpList_exec rfl (exec_buildA (vals:= []) ?_ built_zero) ?_);rfl;go_frame)
    | ((with_reducible refine wpList_storeB hag1 ?_ ?_ hres rfl hone0 ?_);rfl;rfl;(intro w9 hh9 hm9;have HH9:=Lib.hid hh9;have HM9:=Lib.hid hm9;clear hh9 hm9);go_frame)
    | fail)
   refine bodyPost_ret (results_cellT rfl _ rfl hag1 (lies_of HH9.out)) rfl ?_
   refine ⟨?_,HB.out.trans (HM9.out.below HB.out.size fun y hy e=>by have h1:=HZ1.out;omega)⟩
   unfold ThereR
   rw [HTH.out]
   exact ⟨Ino.free 0,rfl,rfl⟩
  ·have hr2:decide (40<fi)=true:=decide_eq_true (by omega)
   have hr3:decide (fi<1)=false:=decide_eq_false hr1
   have hr4:40<fi:=by omega
   clear hr
   go_enter Tryz.func68,Tryz.ntmps68
   go_upto_region 1 with fail
   simp only [hw1,hw2,Int.natCast_zero] at*
   clear hw1 hw2
   go_wp2_with (first
    | (go_at_call 71;refine hok.mono ?_;rintro e2 wt ⟨rfl,hw⟩;obtain rfl:=hw.symm;clear hw)
    | ((with_reducible refine wpList_exec rfl (exec_buildA (vals:= []) ?_ built_zero) ?_);rfl;go_frame)
    | ((with_reducible refine wpList_storeB hag1 ?_ ?_ hres rfl hone0 ?_);rfl;rfl;(intro w9 hh9 hm9;have HH9:=Lib.hid hh9;have HM9:=Lib.hid hm9;clear hh9 hm9);go_frame)
    | fail)
   refine bodyPost_ret (results_cellT rfl _ rfl hag1 (lies_of HH9.out)) rfl ?_
   refine ⟨?_,HB.out.trans (HM9.out.below HB.out.size fun y hy e=>by have h1:=HZ1.out;omega)⟩
   unfold ThereR
   rw [HTH.out]
   exact ⟨Ino.free 0,rfl,rfl⟩
end
section
variable {w w':World} {F FD:Nat→Prop} {s g p:Nat} {l:Lg} {d:Dsk} {M:Sm}
def Sm.of (M:Sm) (f:Int×Int) (kind:Nat):Nat×Nat:=match M.there f with
 | some j=>if (M.N j).kind=kind then (j,0) else (j,12)
 | none=>(0,14)
def KindR (M:Sm) (f:Int×Int) (kind:Nat) (e:Ending):Prop:= ∃x:Ino,x.bl.length=8∧((M.of f kind).2=0→x=M.ino (M.of f kind).1)∧e= .returned (.tuple #[.agg (inoC x), .int .i64 ((M.of f kind).2:Nat)])
theorem of_0 {f:Int×Int} {k:Nat} (h:(M.of f k).2=0):M.there f=some (M.of f k).1∧(M.N (M.of f k).1).kind=k:=by
 unfold Sm.of at h ⊢
 cases hq:M.there f with
 | none=>rw [hq] at h;cases h
 | some j=>
  rw [hq] at h
  simp only at h ⊢
  split at h
  ·rename_i hk
   rw [if_pos hk]
   exact ⟨rfl,hk⟩
  ·cases h
theorem of_codes (f:Int×Int) (k:Nat):(M.of f k).2=0∨(M.of f k).2=12∨(M.of f k).2=14:=by
 unfold Sm.of
 cases M.there f with
 | none=>exact .inr (.inr rfl)
 | some j=>
  simp only
  split
  ·exact .inl rfl
  ·exact .inr (.inl rfl)
set_option maxRecDepth 20000 in
set_option maxHeartbeats 4000000 in
theorem fkind_any (h:SAt w F FD s g p l d M) (f:Int×Int) (kind:Nat) (hk:1≤kind∧kind≤2):Calls Tryz.prog 80 #[.pointer (some ⟨s,0,none⟩), .agg #[.int .i64 f.1, .int .i64 f.2], .int .i64 (kind:Nat)] w
  fun e w'=>KindR M f kind e∧Below w.heap.size w w':=by
 obtain ⟨w1,hw1⟩: ∃w1,w.alloc (.cells #[.int .i64 f.1, .int .i64 f.2] 33)=w1:=⟨_,rfl⟩
 have hb1:Below w.heap.size w w1:=by rw [←hw1];exact (Below.refl _ _).alloc (Nat.le_refl _) _
 have hX1:w1.heap[w.heap.size]?=some (.cells #[.int .i64 f.1, .int .i64 f.2] 33 (0,0)):=by rw [←hw1];exact heap_alloc_at
 have hz1:w1.heap.size=w.heap.size+1:=by rw [←hw1];simp
 obtain ⟨w2,hw2⟩: ∃w2,w1.alloc (.cells (inoC (Ino.free 0)) 52)=w2:=⟨_,rfl⟩
 have hb2:Below w1.heap.size w1 w2:=by rw [←hw2];exact (Below.refl _ _).alloc (Nat.le_refl _) _
 have hX2:w2.heap[w1.heap.size]?=some (.cells (inoC (Ino.free 0)) 52 (0,0)):=by rw [←hw2];exact heap_alloc_at
 have hs2:w2.heap.size=w.heap.size+2:=by rw [←hw2];simp [hz1]
 have hb12:=hb1.trans (hb2.mono hb1.size)
 have hF2:w2.heap[w.heap.size]?=some (.cells #[.int .i64 f.1, .int .i64 f.2] 33 (0,0)):=(hb2.block _ (lt_of_block hX1)).trans hX1
 have h2:=h.below hb12
 have hLF:Lies w2 w.heap.size 0 #[.int .i64 f.1, .int .i64 f.2]:=lies_of hF2
 have hagf:=aggFl f.1 f.2
 have hth:=fthere_any h2 f
 have HB:=Lib.hid hb12
 have HX2:=Lib.hid hX2
 have HZ1:=Lib.hid hz1
 have HZ:=Lib.hid hs2
 have hlen:=h.rep.mid.len
 have HL:=Lib.hid hlen
 have HKD:=Lib.hid hk
 rw [inoC_free] at hw2
 clear h hb1 hX1 hb2 hX2 hb12 hF2 h2 hz1 hs2 hlen hk
 go_enter Tryz.func80,Tryz.ntmps80
 go_upto_region 1 with fail
 simp only [hw1,hw2,Int.natCast_zero] at*
 clear hw1 hw2
 go_wp2_with (first
  | ((with_reducible refine wpList_loadA hagf hLF ?_ ?_);rfl;go_frame)
  | fail)
 refine hth.mono ?_
 rintro e w3 ⟨hR,hb3⟩
 obtain ⟨x,c,hx8,rfl,hxj⟩: ∃(x:Ino) (c:Nat),x.bl.length=8∧e= .returned (.tuple #[.agg (inoC x), .int .i64 (c:Nat)])∧((c=0∧ ∃j,M.there f=some j∧x=M.ino j)∨(c=14∧M.there f=none)):=by
  unfold ThereR at hR
  cases hq:M.there f with
  | none=>
   rw [hq] at hR
   obtain ⟨x,h1,h2⟩:=hR
   exact ⟨x,14,h1,h2, .inr ⟨rfl,rfl⟩⟩
  | some j=>
   rw [hq] at hR
   exact ⟨M.ino j,0,HL.out j,hR, .inl ⟨rfl,j,rfl,rfl⟩⟩
 have hag:=aggI hx8
 have hone:=inoC_one x
 have hszx:(inoC (Ino.free 0)).size=(inoC x).size:=by rw [inoC_size rfl,inoC_size hx8]
 have hsz11:(inoC x).size=11:=inoC_size hx8
 have hb3':=HB.out.trans (hb3.mono HB.out.size)
 have hres:=(hb3.block _ (lt_of_block HX2.out)).trans HX2.out
 obtain ⟨w4,hw4⟩: ∃w4,w3.alloc (.cells (inoC x) 52)=w4:=⟨_,rfl⟩
 have hb4:Below w3.heap.size w3 w4:=by rw [←hw4];exact (Below.refl _ _).alloc (Nat.le_refl _) _
 have hX4:w4.heap[w3.heap.size]?=some (.cells (inoC x) 52 (0,0)):=by rw [←hw4];exact heap_alloc_at
 have hres4:=(hb4.block _ (lt_of_block hres)).trans hres
 have q0:w4.cell? ⟨w3.heap.size,0,none⟩=some (.int .i64 (x.kind:Nat)):=cell_of hX4 rfl
 have hL4:Lies w4 w3.heap.size 0 (inoC x):=lies_of hX4
 have HB4:=Lib.hid (hb3'.trans (hb4.mono hb3'.size))
 have HX8:=Lib.hid hx8
 have HXJ:=Lib.hid hxj
 clear hth hR hb3 hb3' hres hb4 hX4 hx8 hLF
 go_upto_region 2 with (first
  | ((with_reducible refine wpList_storeA_new hag ?_ hone ?_ ?_ ?_);(rw [hsz11];rfl);rfl;rfl;go_frame)
  | fail)
 simp only [hw4] at*
 clear hw4 hxj
 have hcase:(c=0∧x.kind=kind∧(M.of f kind).2=0∧x=M.ino (M.of f kind).1)∨(c=0∧x.kind≠kind∧(M.of f kind).2=12)∨(c=14∧(M.of f kind).2=14):=by
  rcases HXJ.out with ⟨hc,j,hj,hx⟩|⟨hc,hn⟩
  ·by_cases hkk:(M.N j).kind=kind
   ·refine .inl ⟨hc,by rw [hx];exact hkk,?_,?_⟩
    ·unfold Sm.of
     rw [hj]
     simp only
     rw [if_pos hkk]
    ·unfold Sm.of
     rw [hj]
     simp only
     rw [if_pos hkk,hx]
   ·refine .inr (.inl ⟨hc,by rw [hx];exact hkk,?_⟩)
    unfold Sm.of
    rw [hj]
    simp only
    rw [if_neg hkk]
  ·refine .inr (.inr ⟨hc,?_⟩)
   unfold Sm.of
   rw [hn]
 rcases hcase with ⟨hc,hkx,hof,hxx⟩|⟨hc,hkx,hof⟩|⟨hc,hof⟩
 ·subst hc
  have hk1:((x.kind:Int) !=(kind:Int))=false:=by rw [hkx];simp
  have HOF:=Lib.hid (And.intro hof hxx)
  clear hkx hof hxx
  go_wp2_with (first
   | ((with_reducible refine wpList_loadA hag hL4 ?_ ?_);rfl;go_frame)
   | ((with_reducible refine wpList_storeB hag ?_ ?_ hres4 hszx hone ?_);rfl;rfl;(intro w9 hh9 hm9;have HH9:=Lib.hid hh9;have HM9:=Lib.hid hm9;clear hh9 hm9);go_frame)
   | fail)
  refine bodyPost_ret (results_cellT rfl _ rfl hag (lies_of HH9.out)) rfl ?_
  exact ⟨⟨x,HX8.out,fun _=>HOF.out.2,by rw [HOF.out.1];rfl⟩,HB4.out.trans (HM9.out.below HB4.out.size fun y hy e=>by have h1:=HZ1.out;omega)⟩
 ·subst hc
  have hk1:((x.kind:Int) !=(kind:Int))=true:=bne_iff_ne.2 (by omega)
  have HOF:=Lib.hid hof
  clear hkx hof
  go_wp2_with (first
   | ((with_reducible refine wpList_loadA hag hL4 ?_ ?_);rfl;go_frame)
   | ((with_reducible refine wpList_storeB hag ?_ ?_ hres4 hszx hone ?_);rfl;rfl;(intro w9 hh9 hm9;have HH9:=Lib.hid hh9;have HM9:=Lib.hid hm9;clear hh9 hm9);go_frame)
   | fail)
  refine bodyPost_ret (results_cellT rfl _ rfl hag (lies_of HH9.out)) rfl ?_
  exact ⟨⟨x,HX8.out,(fun e=>by rw [HOF.out] at e;cases e),by rw [HOF.out];rfl⟩,HB4.out.trans (HM9.out.below HB4.out.size fun y hy e=>by have h1:=HZ1.out;omega)⟩
 ·subst hc
  have HOF:=Lib.hid hof
  clear hof
  go_wp2_with (first
   | ((with_reducible refine wpList_loadA hag hL4 ?_ ?_);rfl;go_frame)
   | ((with_reducible refine wpList_storeB hag ?_ ?_ hres4 hszx hone ?_);rfl;rfl;(intro w9 hh9 hm9;have HH9:=Lib.hid hh9;have HM9:=Lib.hid hm9;clear hh9 hm9);go_frame)
   | fail)
  refine bodyPost_ret (results_cellT rfl _ rfl hag (lies_of HH9.out)) rfl ?_
  exact ⟨⟨x,HX8.out,(fun e=>by rw [HOF.out] at e;cases e),by rw [HOF.out];rfl⟩,HB4.out.trans (HM9.out.below HB4.out.size fun y hy e=>by have h1:=HZ1.out;omega)⟩
end
end Go.Proofs.YtjdbbnhnbdocbaaGreat
