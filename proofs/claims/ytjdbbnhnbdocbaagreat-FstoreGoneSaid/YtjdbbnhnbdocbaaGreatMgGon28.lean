import Derived.Test.YtjdbbnhnbdocbaaGreatMgGon27
import Derived.Test.YtjdbbnhnbdocbaaGreatMgGon4
import Derived.Maps.RangeWalk
import Derived.Test.YtjdbbnhnbdocbaaGreatMgGon20
import Derived.Shelf.Small.Strs
import Derived.Shelf.Sort.Plain
import Derived.Shelf.Slices.In.SortNone
import Derived.Shelf.Bytes.Small
import Derived.Shelf.SlIterI.Nil
import Derived.Ground.GgzProg
import Derived.Test.YtjdbbnhnbdocbaaGreatProg
namespace Go.Proofs.YtjdbbnhnbdocbaaGreat.Al
open Go.RowKit Go.Tn Go.Tn.Bits
set_option maxRecDepth 20000
def by8 (T:Nat→Bool) (i:Nat):Nat:=num (fun j=>T (8*i+j)) 8
theorem by8_lt (T:Nat→Bool) (i:Nat):by8 T i<256:=num_lt _ 8
theorem by8_word (T:Nat→Bool) (i:Nat):wd T (i/8)/2 ^ (56-8*(i %8)) %256=by8 T i:=by
 unfold wd by8
 have h:=num_add (fun j=>T (64*(i/8)+j)) (8*(i %8)+8) (56-8*(i %8))
 rw [show 8*(i %8)+8+(56-8*(i %8))=64 by omega] at h
 have hlt:=num_lt (fun j=>T (64*(i/8)+(8*(i %8)+8+j))) (56-8*(i %8))
 have hpos:0<2 ^ (56-8*(i %8)):=Nat.pow_pos (by decide)
 have h8:=num_add (fun j=>T (64*(i/8)+j)) (8*(i %8)) 8
 have e:num (fun j=>T (64*(i/8)+(8*(i %8)+j))) 8=num (fun j=>T (8*i+j)) 8:=num_congr fun j hj=>by
  rw [show 64*(i/8)+(8*(i %8)+j)=8*i+j by omega]
 have hb:=num_lt (fun j=>T (8*i+j)) 8
 rw [h,Nat.add_comm,Nat.add_mul_div_right _ _ hpos,Nat.div_eq_of_lt hlt,Nat.zero_add,h8,e]
 rw [show (2:Nat) ^ 8=256 from rfl] at*
 omega
def bytesArr (T:Nat→Bool):Array Value:=((List.range 128).map fun i=>Value.int .u8 (by8 T i)).toArray
theorem bytesArr_get (T:Nat→Bool) {i:Nat} (h:i<128):(bytesArr T)[i]?=some (.int .u8 (by8 T i)):=by simp [bytesArr,h]
theorem bytesArr_set (T T':Nat→Bool) {k:Nat} (hT: ∀j,j<128→j≠k→by8 T' j=by8 T j):(bytesArr T).setIfInBounds k (.int .u8 (by8 T' k))=bytesArr T':=by
 apply Array.ext'
 apply List.ext_getElem?
 intro i
 simp only [bytesArr,Array.toList_setIfInBounds]
 rw [List.getElem?_set]
 by_cases hi:i<128
 ·by_cases hk:i=k
  ·subst hk;simp [hi]
  ·have:k≠i:=fun e=>hk e.symm
   simp [this,hi,hT i hi hk]
 ·by_cases hk:k=i
  ·subst hk;simp [hi]
  ·simp [hk,hi]
def cut (T:Nat→Bool) (m:Nat):Nat→Bool:=fun j=>T j&&decide (j<m)
theorem by8_congr {T T':Nat→Bool} {i:Nat} (h: ∀l,l<8→T (8*i+l)=T' (8*i+l)):by8 T i=by8 T' i:=num_congr h
theorem bytesArr_congr {T T':Nat→Bool} (h: ∀i,i<1024→T i=T' i):bytesArr T=bytesArr T':=by
 unfold bytesArr
 congr 1
 refine List.map_congr_left fun i hi=> ?_
 rw [by8_congr (fun l hl=>h (8*i+l) (by have:=List.mem_range.1 hi;omega))]
theorem bytesArr_zero {T:Nat→Bool} (h: ∀i,T i=false):bytesArr T=(List.replicate 128 (Value.int .u8 0)).toArray:=by
 unfold bytesArr
 congr 1
 have:((List.range 128).map fun i=>Value.int .u8 (by8 T i))=(List.range 128).map fun _=>Value.int .u8 0:=
  List.map_congr_left fun i hi=>by
   rw [show by8 T i=0 from num_le_one _ (fun j=>h _) 8]
   rfl
 rw [this,List.map_const',List.length_range]
theorem info_u8: ∃i,Tryz.prog.info? 5=some i∧i.zero=some (.int .u8 0)∧i.size=1∧i.bytes=1:=by
 have h:(match Tryz.prog.info? 5 with|some i=>(match i.zero with|some (.int .u8 0)=>true|_=>false)&&i.size==1&&i.bytes==1|none=>false)=true:=by kernel_rfl
 cases hq:Tryz.prog.info? 5 with
 | none=>rw [hq] at h;cases h
 | some i=>
  rw [hq] at h
  simp only [Bool.and_eq_true,beq_iff_eq] at h
  refine ⟨i,rfl,?_,h.1.2,h.2⟩
  have:=h.1.1
  split at this
  ·assumption
  ·cases this
set_option maxHeartbeats 1000000 in
theorem bytes_any (w:World) (b n:Nat) (T:Nat→Bool) (hM:MapAt w b n T):Calls Tryz.prog 184 #[.pointer (some ⟨b,0,none⟩)] w
  fun e w'=> ∃bs,e= .returned (.slice (some ⟨bs,0,none⟩) 128 128)∧w'.heap[bs]?=some (.cells (bytesArr T) 5 (0,0))∧w.heap.size≤bs∧Below w.heap.size w w':=by
 obtain ⟨i0,hi0,hz0,hz1,hz2⟩:=info_u8
 have hby:i0.bytes*128≤281474976710656:=by rw [hz2];omega
 have hmaxn:128≤maxLen:=by unfold maxLen;omega
 have hzc:(Value.int .u8 0).cells= #[Value.int .u8 0]:=rfl
 have hle:=hM.le
 go_enter Tryz.func184,Tryz.ntmps184
 go_wp2_with (first
  | (go_at_call 130;refine (ok_any _ b n T hM).mono ?_;rintro e w ⟨rfl,rfl⟩)
  | ((with_reducible refine wpList_exec rfl (exec_make1 Tryz.underlying44 hi0 hz0 hz1 hzc hby hmaxn ?_ ?_) ?_);rfl;rfl;go_frame)
  | fail)
 have hX:(w.alloc (.cells (List.replicate 128 (.int .u8 0)).toArray 5)).heap[w.heap.size]?=some (.cells (bytesArr (cut T (8*0))) 5 (0,0)):=by
  rw [heap_alloc_at,bytesArr_zero (fun i=>by simp [cut])]
 have hMa:MapAt (w.alloc (.cells (List.replicate 128 (.int .u8 0)).toArray 5)) b n T:=⟨heap_alloc_of hM.blk,hM.pos,hM.le,hM.out⟩
 have hba:Below w.heap.size w (w.alloc (.cells (List.replicate 128 (.int .u8 0)).toArray 5)):=(Below.refl _ _).alloc (Nat.le_refl _) _
 have hbs:b<w.heap.size:=hM.lt
 simp only [List.reduceReplicate] at hX hMa hba
 go_loopw [11] (fun c wr=> ∃k:Nat,k≤128∧c= .int .i64 k∧wr.heap[w.heap.size]?=some (.cells (bytesArr (cut T (8*k))) 5 (0,0))∧MapAt wr b n T∧Below w.heap.size w wr) (fun c _=>128-(intOf c).toNat)
 case atStart=>exact ⟨0,Nat.zero_le _,rfl,hX,hMa,hba⟩
 case round=>
  obtain ⟨k,hk,rfl,hh,hMr,hbr⟩:=hrel
  by_cases hlt:k<128
  ·have hlt':(k:Int)<128:=by omega
   have c:=hMr.w_ (k:=k/8) (by omega)
   have hq1:(k:Int)/8<16:=by omega
   have hs0:(0:Int)≤56-8*((k:Int) %8):=by omega
   have hs1:56-8*((k:Int) %8)≤64:=by omega
   have hold: ∃old,wr.cell? ⟨w.heap.size,k,none⟩=some old:=⟨_,cell_of hh (bytesArr_get _ hlt)⟩
   obtain ⟨old,hold⟩:=hold
   have hfr:wr.frozen? ⟨w.heap.size,k,none⟩=false:=free_of hh
   have hv:((wd T (k/8):Nat):Int)/(2:Int) ^ (56-8*(k %8)) %256=((by8 T k:Nat):Int):=by
    rw [←by8_word T k,Int.natCast_emod,Int.natCast_ediv,Int.natCast_pow]
    rfl
   have hnext:bytesArr (cut T (8*(k+1)))=(bytesArr (cut T (8*k))).setIfInBounds k (.int .u8 (by8 T k)):=by
    have h1:by8 T k=by8 (cut T (8*(k+1))) k:=by8_congr fun l hl=>by simp [cut];omega
    rw [h1]
    exact (bytesArr_set _ _ fun j hj hne=>by8_congr fun l hl=>by
     unfold cut
     congr 1
     by_cases h:j<k
     ·simp only [decide_eq_decide];omega
     ·simp only [decide_eq_decide];omega).symm
   have HN:=Lib.hid hnext
   have HV:=Lib.hid hv
   clear hnext hv
   go_wp2
   rw [HV.out]
   refine ⟨⟨k+1,by omega,by go_num,?_,?_,?_⟩,by simp [intOf];omega⟩
   ·rw [heap_setCell_at hh,HN.out]
   ·exact hMr.mod ((Mod.refl (fun x=>x=w.heap.size) wr).setCell _ _ (fun _=>rfl)) (by omega)
   ·exact hbr.setCell (Nat.le_refl _) _
  ·obtain rfl:k=128:=by omega
   have hE:bytesArr (cut T (8*128))=bytesArr T:=bytesArr_congr fun i hi=>by simp [cut];omega
   rw [hE] at hh
   go_wp2
   go_ret
   exact ⟨_,rfl,hh,Nat.le_refl _,hbr⟩
set_option maxRecDepth 20000
def BytesIn (w:World) (ao:Option Addr) (T:Nat→Bool):Prop:= ∃b off,ao=some ⟨b,off,none⟩∧b<w.heap.size∧ ∀i,i<128→w.cell? ⟨b,off+i,none⟩=some (.int .u8 (by8 T i))
def pw (T:Nat→Bool) (i k:Nat):Nat:=num (fun j=>T (64*k+j)) (8*min 8 (i-8*k))
theorem pw_lt (T:Nat→Bool) (i k:Nat):pw T i k<18446744073709551616:=by
 have:=num_lt (fun j=>T (64*k+j)) (8*min 8 (i-8*k))
 have h:2 ^ (8*min 8 (i-8*k))≤2 ^ 64:=Nat.pow_le_pow_right (by decide) (by omega)
 unfold pw
 omega
def partArr (n:Nat) (T:Nat→Bool) (i:Nat):Array Value:=(Value.int .i64 n::(List.range 16).map fun k=>Value.int .u64 (pw T i k)).toArray
theorem partArr_0 (n:Nat) (T:Nat→Bool):partArr n T 0=mapCells n (fun _=>false):=by
 refine congrArg (fun l=>(Value.int .i64 n::l).toArray) (List.map_congr_left fun k _=> ?_)
 have h1:pw T 0 k=0:=by simp [pw,num]
 have h2:wd (fun _=>false) k=0:=num_le_one _ (fun _=>rfl) 64
 rw [h1,h2]
theorem partArr_128 (n:Nat) (T:Nat→Bool):partArr n T 128=mapCells n T:=by
 refine congrArg (fun l=>(Value.int .i64 n::l).toArray) (List.map_congr_left fun k hk=> ?_)
 have hk':=List.mem_range.1 hk
 have h1:pw T 128 k=wd T k:=by
  unfold pw wd
  rw [show 8*min 8 (128-8*k)=64 by omega]
 rw [h1]
theorem partArr_w (n:Nat) (T:Nat→Bool) (i:Nat) {k:Nat} (h:k<16):(partArr n T i)[1+k]?=some (.int .u64 (pw T i k)):=by
 simp [partArr,Nat.add_comm 1 k,h]
theorem partArr_set (n:Nat) (T:Nat→Bool) (i:Nat):(partArr n T i).setIfInBounds (1+i/8) (.int .u64 (pw T (i+1) (i/8)))=partArr n T (i+1):=by
 apply Array.ext'
 apply List.ext_getElem?
 intro l
 simp only [partArr,Array.toList_setIfInBounds]
 rw [List.getElem?_set]
 cases l with
 | zero=>simp
 | succ l=>
  by_cases hl:l<16
  ·by_cases hk:l=i/8
   ·subst hk;simp [Nat.add_comm 1,hl]
   ·have h1:1+i/8≠l+1:=by omega
    have h2:pw T (i+1) l=pw T i l:=by unfold pw;rw [show min 8 (i+1-8*l)=min 8 (i-8*l) by omega]
    simp [h1,hl,h2]
  ·by_cases hk:l=i/8
   ·subst hk;simp [Nat.add_comm 1,hl];omega
   ·have h1:1+i/8≠l+1:=by omega
    simp [h1,hl]
theorem pw_next (T:Nat→Bool) (i:Nat):pw T (i+1) (i/8)=pw T i (i/8)*256+by8 T i∧pw T i (i/8)*256<18446744073709551616:=by
 unfold pw by8
 rw [show 8*min 8 (i+1-8*(i/8))=8*(i %8)+8 by omega,show 8*min 8 (i-8*(i/8))=8*(i %8) by omega,num_add]
 have hlt:=num_lt (fun j=>T (64*(i/8)+j)) (8*(i %8))
 have hp:2 ^ (8*(i %8))≤2 ^ 56:=Nat.pow_le_pow_right (by decide) (by omega)
 refine ⟨?_,by omega⟩
 congr 1
 refine num_congr fun j hj=> ?_
 rw [show 64*(i/8)+(8*(i %8)+j)=8*i+j by omega]
theorem pw_or (T:Nat→Bool) (i:Nat):(pw T i (i/8)*256 ||| by8 T i)=pw T (i+1) (i/8):=by
 rw [(pw_next T i).1]
 have h:=Nat.shiftLeft_add_eq_or_of_lt (show by8 T i<2 ^ 8 from by8_lt T i) (pw T i (i/8))
 rw [Nat.shiftLeft_eq] at h
 exact h.symm
def clr (T:Nat→Bool) (n i:Nat):Nat→Bool:=fun j=>T j&& !decide (n≤j∧j<i)
theorem clr_self (T:Nat→Bool) (n:Nat):clr T n n=T:=by
 funext j
 unfold clr
 have:¬ (n≤j∧j<n):=by omega
 simp [this]
theorem clr_next (T:Nat→Bool) {n i:Nat} (h:n≤i):clr T n (i+1)=setB (clr T n i) i false:=by
 funext j
 unfold clr setB
 by_cases hj:j=i
 ·subst hj;simp [h]
 ·have:(n≤j∧j<i+1)↔(n≤j∧j<i):=by omega
  simp [hj,this]
theorem wd_clear (T:Nat→Bool) (i:Nat):wd T (i/64) &&& (2 ^ 64-(2 ^ (63-i %64)+1))=wd (setB T i false) (i/64):=by
 unfold wd
 rw [num_andNot _ (show i %64<64 by omega)]
 refine num_congr fun j hj=> ?_
 unfold setB
 have:(j=i %64)↔(64*(i/64)+j=i):=by omega
 simp only [this]
theorem wordsArr_set (T:Nat→Bool) (i:Nat):(wordsArr T).setIfInBounds (i/64) (.int .u64 (wd (setB T i false) (i/64)))=wordsArr (setB T i false):=by
 apply Array.ext'
 apply List.ext_getElem?
 intro l
 simp only [wordsArr,Array.toList_setIfInBounds]
 rw [List.getElem?_set]
 by_cases hl:l<16
 ·by_cases hk:l=i/64
  ·subst hk;simp [hl]
  ·have h1:i/64≠l:=fun e=>hk e.symm
   have h2:wd (setB T i false) l=wd T l:=wd_other T i _ hk
   simp [h1,hl,h2]
 ·by_cases hk:l=i/64
  ·subst hk;simp [hl]
  ·have h1:i/64≠l:=fun e=>hk e.symm
   simp [h1,hl]
theorem wd_inj {T U:Nat→Bool} {k:Nat} (h:wd T k=wd U k) {j:Nat} (hj:j<64):T (64*k+j)=U (64*k+j):=by
 have h1:=testBit_num (fun j=>T (64*k+j)) 64 (63-j)
 have h2:=testBit_num (fun j=>U (64*k+j)) 64 (63-j)
 unfold wd at h
 rw [h] at h1
 rw [h1] at h2
 rw [show 64-1-(63-j)=j by omega] at h2
 have:63-j<64:=by omega
 simpa [this] using h2
theorem words_all (T:Nat→Bool) (n:Nat):((List.range 16).all fun k=>((wd (clr T n 1024) k:Nat):Int)==((wd T k:Nat):Int))=true↔ ∀j,j<1024→n≤j→T j=false:=by
 rw [List.all_eq_true]
 constructor
 ·intro h j hj hn
  have:=h (j/64) (List.mem_range.2 (by omega))
  have h1:wd (clr T n 1024) (j/64)=wd T (j/64):=Int.ofNat.inj (eq_of_beq this)
  have h2:=wd_inj h1 (show j %64<64 by omega)
  rw [show 64*(j/64)+j %64=j by omega] at h2
  unfold clr at h2
  rw [←h2]
  simp [hn,hj]
 ·intro h k hk
  have hk':=List.mem_range.1 hk
  have:wd (clr T n 1024) k=wd T k:=num_congr fun j hj=>by
   unfold clr
   by_cases h1:n≤64*k+j
   ·rw [h (64*k+j) (by omega) h1];rfl
   ·simp [h1]
  simp [this]
set_option maxRecDepth 20000
theorem or_value (T:Nat→Bool) (i:Nat):bits .or .u64 (IntKind.u64.wrap ((pw T i (i/8):Nat)*256:Int)) ((by8 T i:Nat):Int)=((pw T (i+1) (i/8):Nat):Int):=by
 have h:=(pw_next T i).2
 have h8:=by8_lt T i
 rw [show ((pw T i (i/8):Nat)*256:Int)=((pw T i (i/8)*256:Nat):Int) by omega,wrap_u64 _ h,bits_or _ _ h (by omega),pw_or]
set_option maxHeartbeats 4000000 in
set_option maxRecDepth 20000 in
theorem load_any (w:World) (ao:Option Addr) (cap:Nat) (T:Nat→Bool) (hB:BytesIn w ao T) (hT: ∀i,1024≤i→T i=false) (n:Nat) (h1:1≤n) (h2:n≤1024):
  Calls Tryz.prog 16 #[.slice ao 128 cap, .int .i64 n] w fun e w'=>
   ((∀j,j<1024→n≤j→T j=false)→ ∃b,e= .returned (.tuple #[.pointer (some ⟨b,0,none⟩), .int .i64 0])∧MapAt w' b n T∧w.heap.size≤b)∧((¬ ∀j,j<1024→n≤j→T j=false)→e= .returned (.tuple #[.pointer none, .int .i64 4]))∧Below w.heap.size w w':=by
 obtain ⟨bb,off,rfl,hbb,hcs⟩:=hB
 go_enter Tryz.func16,Tryz.ntmps16
 go_wp2_with fail
 refine (new_any w n h1 h2).mono ?_
 rintro e w1 ⟨rfl,rfl⟩
 have hX:(w.alloc (.cells (mapCells n (fun _=>false)) 131)).heap[w.heap.size]?=some (.cells (partArr n T 0) 131 (0,0)):=by rw [partArr_0];exact heap_alloc_at
 have hb0:Below w.heap.size w (w.alloc (.cells (mapCells n (fun _=>false)) 131)):=(Below.refl _ _).alloc (Nat.le_refl _) _
 generalize w.alloc (.cells (mapCells n (fun _=>false)) 131)=w1 at*
 go_wp2
 go_loopw [25] (fun c wr=> ∃k:Nat,k≤128∧c= .int .i64 k∧wr.heap[w.heap.size]?=some (.cells (partArr n T k) 131 (0,0))∧Below w.heap.size w wr) (fun c _=>128-(intOf c).toNat)
 case atStart=>exact ⟨0,Nat.zero_le _,rfl,hX,hb0⟩
 case round=>
  obtain ⟨k,hk,rfl,hh,hbr⟩:=hrel
  by_cases hlt:k<128
  ·have hlt':(k:Int)<128:=by omega
   have hc:=hcs k hlt
   have hcr:wr.cell? ⟨bb,off+k,none⟩=some (.int .u8 (by8 T k)):=by rw [hbr.cell (p:=⟨bb,off+k,none⟩) hbb];exact hc
   have hold:wr.cell? ⟨w.heap.size,1+k/8,none⟩=some (.int .u64 (pw T k (k/8))):=cell_of hh (partArr_w n T k (by omega))
   have hfr:wr.frozen? ⟨w.heap.size,1+k/8,none⟩=false:=free_of hh
   have hv:=Lib.hid (or_value T k)
   have hset:=Lib.hid (partArr_set n T k)
   have hidx:(k:Int)/8<16:=by omega
   have hq:IntKind.i64.wrap ((k:Int)/8)=(k:Int)/8:=by simp [IntKind.wrap,IntKind.bits,IntKind.signed];omega
   have hq0:(0:Int)≤(k:Int)/8:=by omega
   have hqn:((k:Int)/8).toNat=k/8:=by omega
   have h8:=by8_lt T k
   have h64:=pw_lt T k (k/8)
   clear hc
   generalize pw T k (k/8)=x at*
   generalize pw T (k+1) (k/8)=z at*
   generalize by8 T k=y at*
   go_upto_region 9 with (fail)
   refine wp_region_x (fun w'=>w'.cell? ⟨w.heap.size,1+k/8,none⟩=some (.int .u64 x)) [(0,1),(1,1),(2,1),(3,1),(4,1),(5,1),(6,1),(7,1),(8,1),(9,0),(10,1),(11,1),(12,1),(13,1),(14,1),(15,1),(16,1),(17,3)] (by kernel_rfl) (by kernel_rfl) (by intro d v c a w h;cases d<;>exact h) ?_
   iterate 9 (refine x_take rfl (fun K hK=> ?_);go_simp;refine hK _ ?_;clear hK K)
   refine x_read rfl hold (fun w' h=>exec_load1 scalar64 rfl h) ?_
   iterate 7 (refine x_take rfl (fun K hK=> ?_);go_simp;refine hK _ ?_;clear hK K)
   refine x_skip rfl (exec_store1 scalar64 size64 rfl rfl rfl hold hfr) ?_
   refine x_nil ?_
   go_wp2
   go_roundw
   case rel=>exact ⟨k+1,by omega,by go_num,by
    refine (heap_setCell_at hh).trans ?_
    rw [hv.out,hset.out],hbr.drew.setCell (Nat.le_refl _) _⟩
   case measure=>simp [intOf];omega
  ·obtain rfl:k=128:=by omega
   rw [partArr_128] at hh
   rw [show ((128:Nat):Int)=128 from rfl]
   have hl:Lies wr w.heap.size 1 (wordsArr T):=fun j hj=>by
    have hj':j<16:=by rw [wordsArr_size] at hj;exact hj
    have h1:wr.cell? ⟨w.heap.size,1+j,none⟩=some (.int .u64 (wd T j)):=cell_of hh (mapCells_w n T hj')
    rw [h1]
    have:=wordsArr_get T hj'
    rw [Array.getElem?_eq_getElem hj] at this
    exact this.symm
   have hone:(wordsArr T).all (·.oneCell')=true:=by
    rw [Array.all_eq_true']
    intro x hx
    simp [wordsArr] at hx
    obtain ⟨k,_,rfl⟩:=hx
    rfl
   have hsz:=wordsArr_size T
   have hlw:w.heap.size<wr.heap.size:=lt_of_block hh
   go_wp2_with (first
    | ((with_reducible refine wpList_loadA (aggWords T) hl ?_ ?_);rfl;go_frame)
    | ((with_reducible refine wpList_storeA_new (aggWords T) ?_ hone ?_ ?_ ?_);exact hsz.symm;rfl;rfl;go_frame)
    | fail)
   have hX2:(wr.alloc (.cells (wordsArr T) 129)).heap[wr.heap.size]?=some (.cells (wordsArr (clr T n n)) 129 (0,0)):=by rw [clr_self];exact heap_alloc_at
   have hM2:(wr.alloc (.cells (wordsArr T) 129)).heap[w.heap.size]?=some (.cells (mapCells n T) 131 (0,0)):=heap_alloc_of hh
   have hb2:Below w.heap.size w (wr.alloc (.cells (wordsArr T) 129)):=hbr.alloc hbr.size _
   clear hh hl hone hsz hX hb0
   have hsw:=hbr.size
   generalize wr.alloc (.cells (wordsArr T) 129)=w2 at*
   clear hbr
   obtain ⟨v1,hv1⟩: ∃v1,v1=wr:=⟨_,rfl⟩
   subst hv1
   go_loopw [11] (fun c wr=> ∃k:Nat,n≤k∧k≤1024∧c= .int .i64 k∧wr.heap[v1.heap.size]?=some (.cells (wordsArr (clr T n k)) 129 (0,0))∧wr.heap[w.heap.size]?=some (.cells (mapCells n T) 131 (0,0))∧Below w.heap.size w wr) (fun c _=>1024-(intOf c).toNat)
   case atStart=>exact ⟨n,Nat.le_refl _,h2,rfl,hX2,hM2,hb2⟩
   case round=>
    obtain ⟨k,hnk,hk,rfl,hx,hm,hbq⟩:=hrel
    by_cases hlt:k<1024
    ·have hlt':(k:Int)<1024:=by omega
     have hold:wr.cell? ⟨v1.heap.size,k/64,none⟩=some (.int .u64 (wd (clr T n k) (k/64))):=cell_of hx (wordsArr_get _ (by omega))
     have hfr:wr.frozen? ⟨v1.heap.size,k/64,none⟩=false:=free_of hx
     have hbit:=fun w=>bit_any w k
     have hv:=Lib.hid (show bits .andNot .u64 ((wd (clr T n k) (k/64):Nat):Int) ((2 ^ (63-k %64):Nat):Int)=((wd (clr T n (k+1)) (k/64):Nat):Int) by
      have hp:2 ^ (63-k %64)<2 ^ 64:=Nat.pow_lt_pow_right (by decide) (by omega)
      rw [bits_andNot _ _ (wd_lt _ _) hp,wd_clear,clr_next T hnk])
     have hset:=Lib.hid (show (wordsArr (clr T n k)).setIfInBounds (k/64) (.int .u64 (wd (clr T n (k+1)) (k/64)))=wordsArr (clr T n (k+1)) by
      rw [clr_next T hnk];exact wordsArr_set _ _)
     have hidx:(k:Int)/64<16:=by omega
     have hq:IntKind.i64.wrap ((k:Int)/64)=(k:Int)/64:=by simp [IntKind.wrap,IntKind.bits,IntKind.signed];omega
     have hq0:(0:Int)≤(k:Int)/64:=by omega
     have hqn:((k:Int)/64).toNat=k/64:=by omega
     generalize wd (clr T n k) (k/64)=x at*
     generalize wd (clr T n (k+1)) (k/64)=z at*
     generalize 2 ^ (63-k %64)=p at*
     go_upto_region 15 with (fail)
     refine wp_region_x (fun w'=>w'.cell? ⟨v1.heap.size,k/64,none⟩=some (.int .u64 x)) [(0,1),(1,1),(2,1),(3,0),(4,1),(5,2),(6,1),(7,1),(8,3)] (by kernel_rfl) (by kernel_rfl) (by intro d v c a w h;cases d<;>exact h) ?_
     iterate 3 (refine x_take rfl (fun K hK=> ?_);go_simp;refine hK _ ?_;clear hK K)
     refine x_read rfl hold (fun w' h=>exec_load1 scalar64 rfl h) ?_
     iterate 1 (refine x_take rfl (fun K hK=> ?_);go_simp;refine hK _ ?_;clear hK K)
     refine x_show' rfl (fun K hK=> ?_)
     go_simp
     refine (hbit _).mono ?_
     rintro e w3 ⟨rfl,hw3⟩
     obtain rfl:=hw3.symm
     clear hw3
     refine hK _ _ hold ?_
     clear hK K
     iterate 2 (refine x_take rfl (fun K hK=> ?_);go_simp;refine hK _ ?_;clear hK K)
     refine x_skip rfl (exec_store1 scalar64 size64 rfl rfl rfl hold hfr) ?_
     refine x_nil ?_
     go_wp2
     go_roundw
     case rel=>
      refine ⟨k+1,by omega,by omega,by go_num,?_,?_,hbq.drew.setCell hsw _⟩
      ·refine (heap_setCell_at hx).trans ?_
       rw [hv.out,hset.out]
      ·exact heap_setCell_of hm (show w.heap.size≠v1.heap.size by omega)
     case measure=>simp [intOf];omega
    ·obtain rfl:k=1024:=by omega
     have hl1:Lies wr v1.heap.size 0 (wordsArr (clr T n 1024)):=lies_of hx
     have hl2:Lies wr w.heap.size 1 (wordsArr T):=fun j hj=>by
      have hj':j<16:=by rw [wordsArr_size] at hj;exact hj
      have h1:wr.cell? ⟨w.heap.size,1+j,none⟩=some (.int .u64 (wd T j)):=cell_of hm (mapCells_w n T hj')
      rw [h1]
      have:=wordsArr_get T hj'
      rw [Array.getElem?_eq_getElem hj] at this
      exact this.symm
     go_upto_region 16 with (fail)
     refine wp_region_x (fun w'=>Lies w' v1.heap.size 0 (wordsArr (clr T n 1024))∧Lies w' w.heap.size 1 (wordsArr T)) [(0,0),(1,1),(2,1),(3,1),(4,0),(5,1)] (by kernel_rfl) (by kernel_rfl) (by intro d v c a w h;cases d<;>exact h) ?_
     refine x_read rfl ⟨hl1,hl2⟩ (fun w' h=>exec_loadA (aggWords _) rfl h.1) ?_
     iterate 3 (refine x_take rfl (fun K hK=> ?_);go_simp;refine hK _ ?_;clear hK K)
     refine x_read rfl ⟨hl1,hl2⟩ (fun w' h=>exec_loadA (aggWords _) rfl h.2) ?_
     by_cases hok: ∀j,j<1024→n≤j→T j=false
     ·refine x_take rfl (fun K hK=>⟨.bool (!true),fun w'=>exec_neqA (k:= .u64) (f:=fun k=>(wd (clr T n 1024) k:Int)) (h:=fun k=>(wd T k:Int)) Tryz.underlying129 Tryz.underlying37 (fun w=>by kernel_rfl) (by kernel_rfl) rfl rfl ((words_all T n).2 hok) w',hK _ ?_⟩)
      clear hK K
      refine x_nil ?_
      go_wp2
      go_ret2
      exact ⟨fun _=>⟨_,rfl,⟨hm,h1,h2,fun i hi=>if h:i<1024 then hok i h hi else hT i (by omega)⟩,Nat.le_refl _⟩,fun h=>absurd hok h,hbq.drew⟩
     ·have hno:((List.range 16).all fun k=>((wd (clr T n 1024) k:Nat):Int)==((wd T k:Nat):Int))=false:=by
       cases hc:((List.range 16).all fun k=>((wd (clr T n 1024) k:Nat):Int)==((wd T k:Nat):Int)) with
       | false=>rfl
       | true=>exact absurd ((words_all T n).1 hc) hok
      refine x_take rfl (fun K hK=>⟨.bool (!false),fun w'=>exec_neqA (k:= .u64) (f:=fun k=>(wd (clr T n 1024) k:Int)) (h:=fun k=>(wd T k:Int)) Tryz.underlying129 Tryz.underlying37 (fun w=>by kernel_rfl) (by kernel_rfl) rfl rfl hno w',hK _ ?_⟩)
      clear hK K
      refine x_nil ?_
      go_wp2
      go_ret2
      exact ⟨fun h=>absurd h hok,fun _=>rfl,hbq.drew⟩
def RawIn (w:World) (ao:Option Addr) (len:Nat) (v:Nat→Nat):Prop:=0<len→ ∃b off,ao=some ⟨b,off,none⟩∧b<w.heap.size∧ ∀i,i<len→w.cell? ⟨b,off+i,none⟩=some (.int .u8 (v i))∧v i<256
def homesOf (v:Nat→Nat):Nat→Bool:=fun i=>decide (i<1024)&&(v (i/8)).testBit (7-i %8)
theorem by8_homes (v:Nat→Nat) {i:Nat} (hi:i<128) (h:v i<256):by8 (homesOf v) i=v i:=by
 have:=num_of (m:=8) (x:=v i) h
 rw [this]
 unfold by8
 refine num_congr fun j hj=> ?_
 unfold homesOf
 have h1:8*i+j<1024:=by omega
 rw [show (8*i+j)/8=i by omega,show 7-(8*i+j) %8=8-1-j by omega]
 simp [h1]
theorem RawIn.bytes {w:World} {ao:Option Addr} {v:Nat→Nat} (h:RawIn w ao 128 v):BytesIn w ao (homesOf v):=by
 obtain ⟨b,off,rfl,hb,hc⟩:=h (by decide)
 exact ⟨b,off,rfl,hb,fun i hi=>by rw [by8_homes v hi (hc i hi).2];exact (hc i hi).1⟩
theorem BytesIn.below {w w':World} {ao:Option Addr} {T:Nat→Bool} (h:BytesIn w ao T) (hb:Below w.heap.size w w'):BytesIn w' ao T:=by
 obtain ⟨b,off,rfl,hlt,hc⟩:=h
 exact ⟨b,off,rfl,Nat.lt_of_lt_of_le hlt hb.size,fun i hi=>by rw [hb.cell (p:=⟨b,off+i,none⟩) hlt];exact hc i hi⟩
end Go.Proofs.YtjdbbnhnbdocbaaGreat.Al
namespace Go.Proofs.YtjdbbnhnbdocbaaGreat
open Go.RowKit Go.Tn Go.Tn.Bt Go.Tn.Lp Go.Tn.Dk
theorem newd_get {k i:Nat} (hi:i<k):(newD k).get i=zeroS:=by
 unfold Dsk.get newD seenQ
 simp [hi]
set_option maxRecDepth 100000 in
theorem ends_zero:endsB zeroS=(0,0):=by decide+kernel
set_option maxRecDepth 100000 in
theorem unseal_zero0:(unsealB zeroS).map (fun p=>(p.ep,p.ct,p.fi,p.la,p.da))=some (0,0,false,false, []):=by decide+kernel
theorem unseal_zero:unsealB zeroS=some ⟨0,0,false,false, []⟩:=by
 have h:=unseal_zero0
 cases hu:unsealB zeroS with
 | none=>rw [hu] at h;cases h
 | some p=>
  rw [hu] at h
  obtain ⟨a,b,c,d,e⟩:=p
  simp at h
  obtain ⟨rfl,rfl,rfl,rfl,rfl⟩:=h
  rfl
theorem newest_zero (k:Nat): ∀j,j≤k→newestB (newD k) j=0
 | 0,_=>rfl
 | j+1,h=>by
  unfold newestB
  rw [newest_zero k j (by omega),newd_get (by omega),ends_zero]
  rfl
theorem hd_zero (i:Nat):hdB zeroS i=none:=by
 unfold hdB
 rw [unseal_zero]
 simp [headP]
theorem head_zero {k a:Nat} (h:a+1<k):(newD k).head a=none:=by
 unfold Dsk.head
 rw [newd_get (by omega),newd_get h,hd_zero,hd_zero]
 rfl
theorem rec_zero {k n ep g f:Nat} (hn:2≤n) (hk:n+3≤k):(log0 n ep g 0).recordB (newD k) f= []:=by
 have hp:pieceB (newD k) n 0=some ⟨0,0,false,false, []⟩:=by
  unfold pieceB
  rw [Nat.zero_mod,newd_get (by omega),unseal_zero]
  rfl
 unfold Lg.recordB
 have hfr:(log0 n ep g 0).free=(n-1)+1:=by
  show n-(0-0)=_
  omega
 rw [hfr]
 show recGo (newD k) n 0 f (n-1+1) []= []
 unfold recGo
 rw [show 0+([]:List Pc).length=0 from rfl,hp]
 simp
theorem open_new {k n:Nat} (hn:2≤n) (hk:n+3≤k):openB (newD k) n=some (log0 n 1 0 0):=by
 unfold openB
 rw [newest_zero k (2+n) (by omega),if_neg (by omega),head_zero (by omega)]
 simp only [Option.getD_none,Option.isSome_none]
 unfold replayL
 have hh:hd0.gen=0∧hd0.tail=0:=⟨rfl,rfl⟩
 rw [hh.1,hh.2,if_neg (by decide)]
 unfold replayGo
 rw [rec_zero hn hk]
 rfl
end Go.Proofs.YtjdbbnhnbdocbaaGreat
namespace Go.Proofs
open Go.Shelf
def Tryz.lays189_ren:Go.Shelf.Ren:=⟨fun|189=>208|125=>224|257=>223|128=>237|129=>210|294=>228|295=>229|296=>230|297=>231|298=>232|299=>233|216=>234|300=>235|301=>236|328=>249|329=>250|330=>251|331=>252|332=>253|215=>254|343=>258|n=>n,fun|28=>34|3=>3|46=>132|0=>0|51=>304|53=>37|4=>4|183=>316|182=>315|131=>232|5=>5|9=>9|218=>333|222=>337|228=>341|229=>165|n=>n,fun|n=>n⟩
theorem Tryz.lays189:Go.Proofs.Lays.n189 Tryz.prog Tryz.lays189_ren:={
 mixed:=by kernel_rfl
 f125:=Tryz.func224.trans (congrArg some (by kernel_rfl))
 f128:=Tryz.func237.trans (congrArg some (by kernel_rfl))
 f129:=Tryz.func210.trans (congrArg some (by kernel_rfl))
 f189:=Tryz.func208.trans (congrArg some (by kernel_rfl))
 f215:=Tryz.func254.trans (congrArg some (by kernel_rfl))
 f216:=Tryz.func234.trans (congrArg some (by kernel_rfl))
 f257:=Tryz.func223.trans (congrArg some (by kernel_rfl))
 f294:=Tryz.func228.trans (congrArg some (by kernel_rfl))
 f295:=Tryz.func229.trans (congrArg some (by kernel_rfl))
 f296:=Tryz.func230.trans (congrArg some (by kernel_rfl))
 f297:=Tryz.func231.trans (congrArg some (by kernel_rfl))
 f298:=Tryz.func232.trans (congrArg some (by kernel_rfl))
 f299:=Tryz.func233.trans (congrArg some (by kernel_rfl))
 f300:=Tryz.func235.trans (congrArg some (by kernel_rfl))
 f301:=Tryz.func236.trans (congrArg some (by kernel_rfl))
 f328:=Tryz.func249.trans (congrArg some (by kernel_rfl))
 f329:=Tryz.func250.trans (congrArg some (by kernel_rfl))
 f330:=Tryz.func251.trans (congrArg some (by kernel_rfl))
 f331:=Tryz.func252.trans (congrArg some (by kernel_rfl))
 f332:=Tryz.func253.trans (congrArg some (by kernel_rfl))
 f343:=Tryz.func258.trans (congrArg some (by kernel_rfl))
 t0:=Tryz.underlying0
 a0:=Tryz.isAgg0
 z0:=Tryz.sizeOf0
 v0:=Tryz.zeroValue0
 t3:=Tryz.underlying3
 a3:=Tryz.isAgg3
 z3:=Tryz.sizeOf3
 v3:=Tryz.zeroValue3
 t4:=Tryz.underlying4
 a4:=Tryz.isAgg4
 z4:=Tryz.sizeOf4
 v4:=Tryz.zeroValue4
 t5:=Tryz.underlying5
 a5:=Tryz.isAgg5
 z5:=Tryz.sizeOf5
 v5:=Tryz.zeroValue5
 t9:=Tryz.underlying9
 a9:=Tryz.isAgg9
 z9:=Tryz.sizeOf9
 v9:=Tryz.zeroValue9
 t28:=Tryz.underlying34
 a28:=Tryz.isAgg34
 z28:=Tryz.sizeOf34
 v28:=Tryz.zeroValue34
 t46:=Tryz.underlying132
 a46:=Tryz.isAgg132
 z46:=Tryz.sizeOf132
 v46:=Tryz.zeroValue132
 t51:=Tryz.underlying304
 a51:=Tryz.isAgg304
 z51:=Tryz.sizeOf304
 v51:=Tryz.zeroValue304
 t53:=Tryz.underlying37
 a53:=Tryz.isAgg37
 z53:=Tryz.sizeOf37
 v53:=Tryz.zeroValue37
 t131:=Tryz.underlying232
 a131:=Tryz.isAgg232
 z131:=Tryz.sizeOf232
 v131:=Tryz.zeroValue232
 t182:=Tryz.underlying315
 a182:=Tryz.isAgg315
 z182:=Tryz.sizeOf315
 v182:=Tryz.zeroValue315
 t183:=Tryz.underlying316
 a183:=Tryz.isAgg316
 z183:=Tryz.sizeOf316
 v183:=Tryz.zeroValue316
 t218:=Tryz.underlying333
 a218:=Tryz.isAgg333
 z218:=Tryz.sizeOf333
 v218:=Tryz.zeroValue333
 t222:=Tryz.underlying337
 a222:=Tryz.isAgg337
 z222:=Tryz.sizeOf337
 v222:=Tryz.zeroValue337
 t228:=Tryz.underlying341
 a228:=Tryz.isAgg341
 z228:=Tryz.sizeOf341
 v228:=Tryz.zeroValue341
 t229:=Tryz.underlying165
 a229:=Tryz.isAgg165
 z229:=Tryz.sizeOf165
 v229:=Tryz.zeroValue165}
open Go.Sort Go.RowKit in
theorem Tryz.slices_Sort_int (blk off cap:Nat) (zs:List Int) (w:World) (hH:Holds (Value.int .i64) w blk off zs.toArray) (hblk:blk<w.heap.size) (hsz:zs.length<4611686018427387904):
  Calls Tryz.prog 208 #[.slice (some ⟨blk,off,none⟩) zs.length cap] w fun e w'=>
   e= .returned (.tuple #[])∧ ∃n os,w'=grow (putRow (Value.int .i64) (Sort.ahead w n) blk off (zs.mergeSort fun x y=>decide (x≤y)).toArray) os:=Any.slices_Sort_int Tryz.lays189 blk off cap zs w hH hblk hsz
open Go.RowKit Go.Sort in
theorem Tryz.slices_Sort_int_none (p:Option Addr) (cap:Nat) (w:World):
  Calls Tryz.prog 208 #[.slice p 0 cap] w fun e w'=>e= .returned (.tuple #[])∧w'=w:=Any.slices_Sort_int_none Tryz.lays189 p cap w
def Tryz.keysA_ren:Go.Shelf.Ren:=⟨fun|7=>186|10=>209|n=>n,fun|23=>118|26=>3|3=>44|28=>285|0=>0|27=>284|33=>65|4=>4|n=>n,fun|n=>n⟩
theorem Tryz.keysA:Go.Proofs.SlLaysZI.n7 Tryz.prog Tryz.keysA_ren:={
 mixed:=by kernel_rfl
 f7:=⟨Tryz.f186.name,by decide,Tryz.func186.trans (congrArg some (by kernel_rfl))⟩
 f10:=⟨Tryz.f209.name,by decide,Tryz.func209.trans (congrArg some (by kernel_rfl))⟩
 t0:=Tryz.underlying0
 a0:=Tryz.isAgg0
 z0:=Tryz.sizeOf0
 v0:=Tryz.zeroValue0
 t4:=Tryz.underlying4
 a4:=Tryz.isAgg4
 z4:=Tryz.sizeOf4
 v4:=Tryz.zeroValue4
 t23:=Tryz.underlying118
 a23:=Tryz.isAgg118
 z23:=Tryz.sizeOf118
 v23:=Tryz.zeroValue118
 t26:=Tryz.underlying3
 a26:=Tryz.isAgg3
 z26:=Tryz.sizeOf3
 v26:=Tryz.zeroValue3
 t27:=Tryz.underlying284
 a27:=Tryz.isAgg284
 z27:=Tryz.sizeOf284
 v27:=Tryz.zeroValue284
 t28:=Tryz.underlying285
 a28:=Tryz.isAgg285
 z28:=Tryz.sizeOf285
 v28:=Tryz.zeroValue285
 t33:=Tryz.underlying65
 a33:=Tryz.isAgg65
 z33:=Tryz.sizeOf65
 v33:=Tryz.zeroValue65}
def Tryz.sortedA_ren:Go.Shelf.Ren:=⟨fun|6=>185|8=>207|9=>208|11=>222|13=>224|12=>223|23=>237|24=>210|14=>228|15=>229|16=>230|17=>231|18=>232|19=>233|20=>234|21=>235|22=>236|25=>249|26=>250|27=>251|28=>252|29=>253|30=>254|31=>258|n=>n,fun|26=>3|28=>285|24=>34|0=>0|3=>3|37=>132|48=>304|50=>37|4=>4|40=>316|39=>315|45=>232|5=>5|9=>9|51=>333|55=>337|57=>341|58=>165|33=>65|n=>n,fun|n=>n⟩
theorem Tryz.sortedA:Go.Proofs.SlLaysZI.n6 Tryz.prog Tryz.sortedA_ren:={
 mixed:=by kernel_rfl
 f6:=⟨Tryz.f185.name,by decide,Tryz.func185.trans (congrArg some (by kernel_rfl))⟩
 f8:=⟨Tryz.f207.name,by decide,Tryz.func207.trans (congrArg some (by kernel_rfl))⟩
 f11:=⟨Tryz.f222.name,by decide,Tryz.func222.trans (congrArg some (by kernel_rfl))⟩
 t0:=Tryz.underlying0
 a0:=Tryz.isAgg0
 z0:=Tryz.sizeOf0
 v0:=Tryz.zeroValue0
 t24:=Tryz.underlying34
 a24:=Tryz.isAgg34
 z24:=Tryz.sizeOf34
 v24:=Tryz.zeroValue34
 t26:=Tryz.underlying3
 a26:=Tryz.isAgg3
 z26:=Tryz.sizeOf3
 v26:=Tryz.zeroValue3
 t28:=Tryz.underlying285
 a28:=Tryz.isAgg285
 z28:=Tryz.sizeOf285
 v28:=Tryz.zeroValue285
 i26:=by kernel_rfl}
end Go.Proofs
namespace Go.Tn.Dk
open Go.Tn
def Lg.keys (l:Lg) (d:Dsk):List Nat:=(List.range (l.homes d)).filter fun k=>(l.H k).isSome
theorem nodup_le: ∀(n:Nat) (l:List Int),l.Nodup→(∀x∈l,0≤x∧x<n)→l.length≤n
 | 0,l,_,h=>by
  cases l with
  | nil=>exact Nat.le_refl _
  | cons x r=>have:=h x List.mem_cons_self;omega
 | n+1,l,hd,h=>by
  by_cases hm:(n:Int)∈l
  ·have h1:=nodup_le n (l.erase n) (hd.erase _) fun x hx=>by
    have h2:=(hd.mem_erase_iff).1 hx
    have:=h x h2.2
    omega
   rw [List.length_erase_of_mem hm] at h1
   omega
  ·have:=nodup_le n l hd fun x hx=>by
    have:=h x hx
    have:x≠n:=fun e=>hm (e ▸ hx)
    omega
   omega
end Go.Tn.Dk
namespace Go.Proofs.YtjdbbnhnbdocbaaGreat
open Go.RowKit Go.Tn Go.Maps Go.Sort Go.Shelf Go.Tn.Bt Go.Tn.Lp Go.Tn.Dk
theorem sortsA (m:Nat):AnyZI.SortsIn Tryz.prog Tryz.sortedA_ren Fence.wide m:=
 ⟨fun blk off cap ss W hH hblk hsz=>callsIn_wide.2 (Tryz.slices_Sort_int blk off cap ss W hH hblk hsz),
  fun p cap W=>callsIn_wide.2 (Tryz.slices_Sort_int_none p cap W)⟩
theorem keys_call (W:World) (m:Nat):Calls Tryz.prog 186 #[.map (some m)] W
  fun e w'=>e= .returned (.func (.func 209) #[] #[.pointer (some ⟨W.heap.size,0,none⟩)])∧w'=W.alloc (.cells #[.map (some m)] 118):=
 (callsIn_wide (n:=5)).1 (AnyZI.keys_in Tryz.keysA Fence.wide 5 trivial rfl (some m) W)
theorem sorted_call (w:World) (m clk:Nat) (L:Ents Int) (hb:w.heap[m]?=some (.map (ents encI L) clk)) (hwf:WF L clk) (hk: ∀e∈L,(Lit.int .i64 e.1).wf=true) (hl:L.length≤100000):
  Calls Tryz.prog 185 #[.func (.func 209) #[] #[.pointer (some ⟨w.heap.size,0,none⟩)]] (w.alloc (.cells #[.map (some m)] 118))
   fun e w'=> ∃v,e= .returned v∧w'.ownsRow w.heap.size 3 1 v L.length (((L.map (·.1)).mergeSort leI).map encZ)∧Below w.heap.size w w':=by
 obtain ⟨D0,hown,hperm,hsz⟩:=owns_ents Tryz.underlying3 hb hwf hk hl
 have hbl:m<w.heap.size:=lt_of_block hb
 have hal:Below w.heap.size w (w.alloc (.cells #[.map (some m)] 118)):=(Below.refl _ w).alloc (Nat.le_refl _) _
 have hmax:Maps.size D0≤maxLen:=by rw [hsz];unfold maxLen;omega
 have hbytes:Maps.size D0*8≤140737488355328:=by rw [hsz];omega
 have hseq:SeqGives Fence.wide 2 Tryz.prog 209 #[.pointer (some ⟨w.heap.size,0,none⟩)] encZ (fun ss=>ss.Perm (intKeys D0)) (Maps.size D0) (w.alloc (.cells #[.map (some m)] 118)):=
  AnyZI.keys_gives (ρ:=Tryz.keysA_ren) {Tryz.keysA with} Fence.wide _ trivial rfl (by omega) w.heap.size m L.length D0 _ (by simp) (by simp) (by
   obtain ⟨es,clock,hb,Ft,hs,hD⟩:=hown
   exact ⟨es,clock,(Below.heap_alloc _ _ m hbl).trans hb,Ft,hs,hD⟩)
 have cS:=AnyZI.sorted_in Tryz.sortedA Fence.wide 5 trivial trivial trivial trivial rfl (by omega) (sortsA _) (enters_of Tryz.func208 (by kernel_rfl) rfl) 209 #[.pointer (some ⟨w.heap.size,0,none⟩)] trivial (enters_of Tryz.func209 (by kernel_rfl) rfl) _ _ hmax hbytes _ hseq
 change CallsIn _ _ Tryz.prog 185 _ _ _ at cS
 refine ((callsIn_wide (n:=5)).1 cS).mono ?_
 rintro e w' ⟨v,ss,rfl,hS,hrow,_,hbl2⟩
 have hp2:ss.Perm (L.map (·.1)):=hS.trans hperm
 have hlen:ss.length=L.length:=by rw [hp2.length_eq,List.length_map]
 refine ⟨v,rfl,?_,hal.trans (hbl2.mono (by simp))⟩
 rw [←mergeSort_of_perm_i hp2, ←hlen]
 exact ownsRow_base_a hrow (by simp)
abbrev enI:Int→List Value:=fun z=> [.int .i64 z]
theorem hkeys_any {w:World} {F:Nat→Prop} {m clk:Nat} {L:Ents Int} {l:Lg} {d:Dsk} (hok:l.ok d) (hd:d.ok) (h:HAt w F m L clk l.H):
  Calls Tryz.prog 185 #[.func (.func 209) #[] #[.pointer (some ⟨w.heap.size,0,none⟩)]] (w.alloc (.cells #[.map (some m)] 118))
   fun e w'=> ∃v,e= .returned v∧LOut enI 1 3 w.heap.size w' v ((l.keys d).map fun (k:Nat)=>(k:Int))∧Below w.heap.size w w':=by
 have hlt: ∀e∈L,0≤e.1∧e.1<((l.homes d:Nat):Int):=fun e he=>by
  obtain ⟨k,hk,b,hb, -⟩:=h.key e he
  have:=(hok.H k b hb).1
  omega
 have hnd:(L.map (·.1)).Nodup:=by
  have:=h.wf.keys
  exact List.pairwise_map.2 (this.imp fun h=>h)
 have hh:l.homes d≤4096:=by unfold Lg.homes;have:=hd.hi;omega
 have hlen:L.length≤100000:=by
  have:=nodup_le (l.homes d) (L.map (·.1)) hnd fun x hx=>by
   obtain ⟨e,he,rfl⟩:=List.mem_map.1 hx
   exact hlt e he
  rw [List.length_map] at this
  omega
 have hkd:((l.keys d).map fun (k:Nat)=>(k:Int)).Nodup:=by
  refine List.pairwise_map.2 ((List.Pairwise.filter _ (List.nodup_range (n:=l.homes d))).imp fun h e=>h (by omega))
 have hperm:(L.map (·.1)).Perm ((l.keys d).map fun (k:Nat)=>(k:Int)):=by
  refine (List.perm_ext_iff_of_nodup hnd hkd).2 fun a=>⟨fun ha=> ?_,fun ha=> ?_⟩
  ·obtain ⟨e,he,rfl⟩:=List.mem_map.1 ha
   obtain ⟨k,hk,b,hb, -⟩:=h.key e he
   refine List.mem_map.2 ⟨k,?_,hk.symm⟩
   unfold Lg.keys
   rw [List.mem_filter,List.mem_range,hb]
   exact ⟨(hok.H k b hb).1,rfl⟩
  ·obtain ⟨k,hk,rfl⟩:=List.mem_map.1 ha
   unfold Lg.keys at hk
   rw [List.mem_filter] at hk
   obtain ⟨e,he,hek⟩:=h.all k (by
    intro e
    rw [e] at hk
    simp at hk)
   exact List.mem_map.2 ⟨e,he,hek⟩
 have hsrt:((L.map (·.1)).mergeSort leI)=(l.keys d).map fun (k:Nat)=>(k:Int):=by
  rw [mergeSort_of_perm_i hperm]
  refine List.mergeSort_of_pairwise ?_
  refine List.pairwise_map.2 ((List.Pairwise.filter _ (List.pairwise_lt_range (n:=l.homes d))).imp fun h=> ?_)
  simp only [leI,decide_eq_true_eq]
  omega
 refine (sorted_call w m clk L h.blk h.wf (fun e he=> ?_) hlen).mono ?_
 ·have:=hlt e he
  simp [Lit.wf,IntKind.min,IntKind.max,IntKind.signed,IntKind.bits]
  omega
 ·rintro e w' ⟨v,rfl,hrow,hb⟩
  rw [hsrt] at hrow
  have hll:L.length=((l.keys d).map fun (k:Nat)=>(k:Int)).length:=by rw [←hperm.length_eq,List.length_map]
  rw [hll] at hrow
  refine ⟨v,rfl,⟨?_,fun r hr=> ?_,hb.size⟩,hb⟩
  ·have hfl: ∀zs:List Int,zs.flatMap enI=zs.map encZ:=fun zs=>by
    induction zs with
    | nil=>rfl
    | cons z zs ih=>
     rw [List.flatMap_cons,ih]
     rfl
   rw [hfl]
   exact ownsRow_base_a hrow (Nat.zero_le _)
  ·rcases hrow.2 with ⟨hv,_⟩|⟨g,cap,cur,hv,h0,_⟩
   ·rw [hv] at hr;cases hr
   ·rw [hv] at hr;cases hr;exact h0
end Go.Proofs.YtjdbbnhnbdocbaaGreat
