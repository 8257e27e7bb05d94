import Derived.Test.YtjdbbnhnbdocbaaGreatMgGon7
import Derived.Test.YtjdbbnhnbdocbaaGreatMgGon4
import Derived.Test.YtjdbbnhnbdocbaaGreatMgGon6
namespace Go.Proofs.YtjdbbnhnbdocbaaGreat
open Go.RowKit Go.Tn Go.Tn.Bt
section
variable {w:World} {a:Nat} {v:Value} {B:List Nat} {at_ err:Nat}
theorem get_err (h:RdAt w a v B at_ err) (he:err≠0) (n:Nat):Calls Tryz.prog 63 #[.pointer (some ⟨a,0,none⟩), .int .i64 n] w
  fun e w'=>e= .returned (.int .u64 0)∧w'=w:=by
 have herr:=rerr_any h
 have hne:((err:Int) !=0)=true:=by simp;omega
 clear h he
 go_enter Tryz.func63,Tryz.ntmps63
 go_wp2_with (go_at_call 65;refine herr.mono ?_;rintro e w2 ⟨rfl,hw⟩;obtain rfl:=hw.symm;clear hw)
 go_ret
 exact ⟨rfl,rfl⟩
theorem get_short (h:RdAt w a v B at_ 0) (n:Nat) (hn:n≤64) (hle0:at_≤8*B.length) (hat:8*B.length<at_+n):Calls Tryz.prog 63 #[.pointer (some ⟨a,0,none⟩), .int .i64 n] w
  fun e w'=>e= .returned (.int .u64 0)∧RdAt w' a v B at_ 3∧Mod (fun x=>x=a) w w':=by
 have herr:=rerr_any h
 have hleft:=left_any h hle0
 have hB:=h.len
 have hle:8*B.length-at_<n:=by omega
 generalize 8*B.length-at_=lf at*
 have hn':(n:Int)≤64:=by omega
 have hdn:decide ((n:Int)<0)=false:=by simp
 have hdm:decide (64<(n:Int))=false:=by simp;omega
 have hlfn:decide (lf<n)=true:=by simp;omega
 have H:=Lib.hid h
 clear h
 go_enter Tryz.func63,Tryz.ntmps63
 go_wp2_with fail
 refine herr.mono ?_
 rintro e w2 ⟨rfl,hw⟩
 obtain rfl:=hw.symm
 clear hw herr
 go_wp2_with fail
 refine hleft.mono ?_
 rintro e w2 ⟨rfl,hb2⟩
 have h2:=H.out.below hb2
 have hm2:Mod (fun x=>x=a) w w2:=(Mod.of_below hb2).mono fun x hx h=>absurd h (Nat.not_le.2 hx)
 have c3:=h2.c3
 have hf: ∀o,w2.frozen? ⟨a,o,none⟩=false:=fun o=>free_of h2.blk
 have H2:=Lib.hid h2
 clear hleft hb2 h2
 go_wp2_with fail
 go_ret
 have hm:=(Mod.refl (fun x=>x=a) w2).setCell ⟨a,3,none⟩ (.int .i64 3) fun _=>rfl
 have hr:=H2.out
 exact ⟨rfl,⟨heap_setCell_at (o:=3) (v:= .int .i64 ((3:Nat):Int)) hr.blk,hr.bs.kept hm.size fun r hr'=>hm.block r (hr.bs.lt hr') (hr.ne r hr'),hr.ne,hr.lt,hr.len⟩,hm2.trans hm (fun _ h=>h) fun _ _ h=>h⟩
def endR (B:List Nat) (at_ err:Nat):Nat:=
 if err≠0 then err else if 8≤8*B.length-at_ then 6 else if 0<8*B.length-at_∧B.getLastD 0 %2 ^ (8*B.length-at_)≠0 then 6 else 0
theorem end_any (h:RdAt w a v B at_ err) (hle0:at_≤8*B.length):Calls Tryz.prog 168 #[.pointer (some ⟨a,0,none⟩)] w
  fun e w'=>e= .returned (.int .i64 ((endR B at_ err:Nat):Int))∧Below w.heap.size w w':=by
 have herr:=rerr_any h
 by_cases he:err=0
 ·subst he
  have hleft:=left_any h hle0
  have hB:=h.len
  by_cases h8:8≤8*B.length-at_
  ·have hE:endR B at_ 0=6:=by simp [endR,h8]
   rw [hE]
   have h8':(8:Int)≤((8*B.length-at_:Nat):Int):=by omega
   generalize 8*B.length-at_=lf at*
   clear h hE
   go_enter Tryz.func168,Tryz.ntmps168
   go_wp2_with fail
   refine herr.mono ?_
   rintro e w2 ⟨rfl,hw⟩
   obtain rfl:=hw.symm
   clear hw herr
   go_wp2_with fail
   refine hleft.mono ?_
   rintro e w2 ⟨rfl,hb2⟩
   go_wp2
   go_ret
   exact ⟨rfl,hb2⟩
  ·by_cases h0:0<8*B.length-at_
   ·obtain ⟨m,hm⟩: ∃m,B.length=m+1:=⟨B.length-1,by omega⟩
    obtain ⟨c,hc⟩: ∃c,B[m]?=some c:=⟨B[m]'(by omega),List.getElem?_eq_getElem _⟩
    have hlast:B.getLastD 0=c:=by
     rw [List.getLastD_eq_getLast?,List.getLast?_eq_getElem?,hm]
     simp [hc]
    have hc8:=h.lt c (List.mem_of_getElem? hc)
    obtain ⟨k,hk⟩: ∃k,8*B.length-at_=k:=⟨_,rfl⟩
    have hE:endR B at_ 0=if c %2 ^ k=0 then 0 else 6:=by
     unfold endR
     rw [if_neg (by simp),hk,if_neg (by omega),hlast]
     by_cases hz:c %2 ^ k=0
     ·rw [if_neg (by simp [hz]),if_pos hz]
     ·rw [if_pos ⟨by omega,hz⟩,if_neg hz]
    rw [hE]
    rw [hk] at hleft
    obtain ⟨z,hz⟩: ∃z,c %2 ^ k=z:=⟨_,rfl⟩
    have hmask:bits .and .u8 (c:Int) (IntKind.u8.wrap (IntKind.u8.wrap ((2:Int) ^ k)-1))=((z:Nat):Int):=by
     have h1:1≤2 ^ k:=Nat.one_le_two_pow
     have h2:2 ^ k≤2 ^ 8:=Nat.pow_le_pow_right (by decide) (by omega)
     have e2:IntKind.u8.wrap (IntKind.u8.wrap ((2:Int) ^ k)-1)=((2 ^ k-1:Nat):Int):=by
      have e:((2:Int) ^ k)=((2 ^ k:Nat):Int):=by norm_cast
      rw [e,IntKind.wrap_u8,IntKind.wrap_u8]
      omega
     rw [e2,and8 _ _ hc8 (by omega),Nat.and_two_pow_sub_one_eq_mod,hz]
    rw [hz]
    obtain ⟨ao,cap,rfl,hcell⟩:=h.sl
    obtain ⟨b,off,rfl,hcb⟩:=hcell _ c hc
    have H:=Lib.hid h
    have HC:=Lib.hid hcb
    have hwm:IntKind.i64.wrap (m:Int)=m:=IntWalk.i64_in _ (by omega)
    have hm0:(0:Int)≤m:=by omega
    have hm1:(m:Int)<(m:Int)+1:=by omega
    have hk0:(0:Int)<k:=by omega
    have hk0n:0<k:=by omega
    have hk0d:decide (0<k)=true:=by simp;omega
    have hk8:(k:Int)<8:=by omega
    have hk8':¬ (8:Int)≤k:=by omega
    have hbl:=World.block_lt_of_cell? w _ hcb
    obtain ⟨rv,hrv⟩: ∃rv:Nat,(if z=0 then 0 else 6)=rv:=⟨_,rfl⟩
    rw [hrv]
    have HRV:=Lib.hid hrv
    clear hrv
    clear h hcb hcell hc hlast hk hz hE h8 h0
    go_enter Tryz.func168,Tryz.ntmps168
    go_wp2_with fail
    refine herr.mono ?_
    rintro e w2 ⟨rfl,hw⟩
    obtain rfl:=hw.symm
    clear hw herr
    go_wp2_with fail
    refine hleft.mono ?_
    rintro e w2 ⟨rfl,hb2⟩
    have hS:GS a b off m (m+1) cap at_ c w2.drew:=by
     have h2:=H.out.below hb2
     have c1:=h2.c1
     rw [hm] at c1
     exact ⟨c1,h2.c2,(hb2.cell (p:=⟨b,off+m,none⟩) hbl).trans HC.out⟩
    clear hleft
    go_upto_region 7 with fail
    refine wp_region_g (GS a b off m (m+1) cap at_ c) [(0,1),(1,1),(2,1),(3,1),(4,1),(5,1),(6,0),(7,1),(8,1),(9,1),(10,0),(11,1),(12,1),(13,1),(14,0),(15,1),(16,1),(17,1),(18,1),(19,1),(20,1)] (by kernel_rfl) (by kernel_rfl) (by intro d v c a w h;cases d<;>exact h) ?_
    iterate 3 (refine g_take rfl rfl (fun K hK=> ?_);go_simp;refine hK _ ?_;clear hK K)
    iterate 3 (refine g_take rfl rfl (fun K hK=> ?_);go_simp;refine hK _ ?_;clear hK K)
    refine g_read rfl rfl hS (fun w' h=>exec_load1 ⟨⟨_,Tryz.underlying44,rfl⟩⟩ rfl h.c1) ?_
    iterate 3 (refine g_take rfl rfl (fun K hK=> ?_);go_simp;refine hK _ ?_;clear hK K)
    refine g_read rfl rfl hS (fun w' h=>exec_load1 ⟨⟨_,Tryz.underlying44,rfl⟩⟩ rfl h.c1) ?_
    iterate 3 (refine g_take rfl rfl (fun K hK=> ?_);go_simp;refine hK _ ?_;clear hK K)
    refine g_read rfl rfl hS (fun w' h=>exec_load1 ⟨⟨_,Tryz.underlying5,rfl⟩⟩ rfl h.cb) ?_
    iterate 5 (refine g_take rfl rfl (fun K hK=> ?_);go_simp;refine hK _ ?_;clear hK K)
    iterate 1 (refine g_take rfl rfl (fun K hK=> ?_);go_simp;refine hK _ ?_;clear hK K)
    refine g_nil ?_
    clear hS
    by_cases hz:z=0
    ·subst hz
     have hzb:(((0:Nat):Int) !=0)=false:=rfl
     go_wp2
     go_ret
     exact ⟨by rw [←HRV.out];rfl,hb2.drew⟩
    ·have hzi:((z:Int) !=0)=true:=by simp;omega
     go_wp2
     go_ret
     exact ⟨by rw [←HRV.out,if_neg hz];rfl,hb2.drew⟩
   ·have hE:endR B at_ 0=0:=by simp [endR,h8,h0]
    rw [hE]
    have h8':8*B.length-at_=0:=by omega
    rw [h8'] at hleft
    clear h hE
    go_enter Tryz.func168,Tryz.ntmps168
    go_wp2_with fail
    refine herr.mono ?_
    rintro e w2 ⟨rfl,hw⟩
    obtain rfl:=hw.symm
    clear hw herr
    go_wp2_with fail
    refine hleft.mono ?_
    rintro e w2 ⟨rfl,hb2⟩
    go_upto_region 7 with fail
    refine wp_region_g (fun _=>True) [(0,1),(1,1),(2,1),(3,1),(4,1),(5,1),(6,0),(7,1),(8,1),(9,1),(10,0),(11,1),(12,1),(13,1),(14,0),(15,1),(16,1),(17,1),(18,1),(19,1),(20,1)] (by kernel_rfl) (by kernel_rfl) (by intro d v c a w h;cases d<;>exact h) ?_
    iterate 3 (refine g_take rfl rfl (fun K hK=> ?_);go_simp;refine hK _ ?_;clear hK K)
    iterate 17 (refine g_offK rfl rfl (fun _=>trivial) (fun K hK=> ?_);go_simp;refine hK _ ?_;clear hK K)
    iterate 1 (refine g_take rfl rfl (fun K hK=> ?_);go_simp;refine hK _ ?_;clear hK K)
    refine g_nil ?_
    go_wp2
    go_ret
    exact ⟨rfl,hb2.drew⟩
 ·have hE:endR B at_ err=err:=by simp [endR,he]
  rw [hE]
  have hne:((err:Int) !=0)=true:=by simp;omega
  clear h he hE
  go_enter Tryz.func168,Tryz.ntmps168
  go_wp2_with (go_at_call 65;refine herr.mono ?_;rintro e w2 ⟨rfl,hw⟩;obtain rfl:=hw.symm;clear hw)
  go_ret
  exact ⟨rfl,Below.refl _ _⟩
end
end Go.Proofs.YtjdbbnhnbdocbaaGreat
namespace Go.Tn.Ino
open Go.RowKit Go.Tn.Bt
def sector (L:List Bool):List Nat:=pack L++List.replicate (128-(pack L).length) 0
theorem sector_len {L:List Bool} (h:L.length≤1024):(sector L).length=128:=by
 unfold sector
 rw [List.length_append,List.length_replicate,pack_len]
 omega
theorem sector_lt (L:List Bool): ∀x∈sector L,x<256:=fun x hx=>by
 rcases List.mem_append.1 hx with h|h
 ·exact pack_lt L x h
 ·rw [List.eq_of_mem_replicate h]
  decide
end Go.Tn.Ino
namespace Go.Tn.Lp
def flStep (s:Nat×Nat) (c:Nat):Nat×Nat:=((s.1+c) %65535,(s.2+(s.1+c) %65535) %65535)
def flOf (s:Nat):Nat×Nat:=(s %65536 %65535,s/65536 %65535)
def fadd (s:Nat) (b:List Nat):Nat:=(b.foldl flStep (flOf s)).2*65536+(b.foldl flStep (flOf s)).1
def fsum (b:List Nat):Nat:=fadd 0 b
theorem flStep_lt (s:Nat×Nat) (c:Nat):(flStep s c).1<65535∧(flStep s c).2<65535:=⟨Nat.mod_lt _ (by decide),Nat.mod_lt _ (by decide)⟩
theorem flOf_lt (s:Nat):(flOf s).1<65535∧(flOf s).2<65535:=⟨Nat.mod_lt _ (by decide),Nat.mod_lt _ (by decide)⟩
theorem fold_lt: ∀(b:List Nat) (s:Nat×Nat),s.1<65535∧s.2<65535→(b.foldl flStep s).1<65535∧(b.foldl flStep s).2<65535
 | [],_,h=>h
 | c::b,s,_=>fold_lt b _ (flStep_lt s c)
theorem fadd_lt (s:Nat) (b:List Nat):fadd s b<4294967296:=by
 have:=fold_lt b _ (flOf_lt s)
 unfold fadd
 omega
theorem fsum_lt (b:List Nat):fsum b<4294967296:=fadd_lt 0 b
end Go.Tn.Lp
namespace Go.Proofs.YtjdbbnhnbdocbaaGreat
open Go.RowKit Go.Tn Go.Tn.Bt Go.Tn.Lp
theorem aggH (f s:Int):AggT Tryz.prog 324 (#[.int .u32 f, .int .u32 s]:Array Value).size:=⟨⟨_,Tryz.underlying324,rfl⟩,by kernel_rfl⟩
theorem fof_any (w:World) (s:Nat) (hs:s<4294967296):Calls Tryz.prog 238 #[.int .u32 s] w
  fun e w'=>e= .returned (.agg #[.int .u32 ((flOf s).1:Nat), .int .u32 ((flOf s).2:Nat)])∧Below w.heap.size w w':=by
 have ha:=and32 s 65535 hs (by decide)
 rw [show s &&& 65535=s %65536 from Nat.and_two_pow_sub_one_eq_mod s 16] at ha
 have hs':(s:Int)<4294967296:=by omega
 have ha':bits .and .u32 (s:Int) 65535=((s %65536:Nat):Int):=ha
 clear ha
 have hm:s %65536<65536:=Nat.mod_lt _ (by decide)
 unfold flOf
 simp only
 generalize hq:s %65536=q at*
 have hd:(s:Int)/65536=((s/65536:Nat):Int):=by omega
 have hdl:s/65536<65536:=by omega
 generalize s/65536=d at*
 go_enter Tryz.func238,Tryz.ntmps238
 go_wp2
 (try simp only [Exit.inBlock,Exit.then])
 refine bodyPost_ret (results_cellA rfl _ rfl (aggH _ _) (lies_of heap_alloc_at)) rfl ?_
 refine ⟨?_,(Below.refl _ _).alloc (Nat.le_refl _) _⟩
 rw [show (q:Int) %65535=((q %65535:Nat):Int) by omega,show (d:Int) %65535=((d %65535:Nat):Int) by omega]
theorem ftake_any (w:World) (f s c:Nat) (hf:f<65535) (hs:s<65535) (hc:c<256):Calls Tryz.prog 239 #[.agg #[.int .u32 f, .int .u32 s], .int .u8 c] w
  fun e w'=>e= .returned (.agg #[.int .u32 ((flStep (f,s) c).1:Nat), .int .u32 ((flStep (f,s) c).2:Nat)])∧Below w.heap.size w w':=by
 have hf':(f:Int)<65535:=by omega
 have hs':(s:Int)<65535:=by omega
 have hc':(c:Int)<256:=by omega
 go_enter Tryz.func239,Tryz.ntmps239
 go_wp2
 (try simp only [Exit.inBlock,Exit.then])
 have e: ∀o,(w.alloc o).heap.size=w.heap.size+1:=fun o=>by simp
 refine bodyPost_ret (results_cellA rfl _ rfl (aggH ((f+c:Int) %65535) ((s+(f+c):Int) %65535)) (lies_of (t:=324) (fr:=(0,0)) ?_)) rfl ?_
 ·rw [←e]
  exact heap_alloc_at
 refine ⟨?_,((Below.refl _ _).alloc (Nat.le_refl _) _).alloc (by simp) _⟩
 unfold flStep
 simp only
 rw [show ((f:Int)+c) %65535=(((f+c) %65535:Nat):Int) by omega,show ((s:Int)+(f+c)) %65535=(((s+(f+c) %65535) %65535:Nat):Int) by omega]
theorem fwhole_any (w:World) (f s:Nat) (hf:f<65535) (hs:s<65535):Calls Tryz.prog 240 #[.agg #[.int .u32 f, .int .u32 s]] w
  fun e w'=>e= .returned (.int .u32 (s*65536+f:Nat))∧Below w.heap.size w w':=by
 have hf':(f:Int)<65535:=by omega
 have hs':(s:Int)<65535:=by omega
 have hor:bits .or .u32 ((s:Int)*65536) (f:Int)=((s*65536+f:Nat):Int):=by
  have h:=or32 (s*65536) f (by omega) (by omega)
  rw [show s*65536 ||| f=s*65536+f from or_add s f 16 (by omega)] at h
  rw [←h]
  rfl
 go_enter Tryz.func240,Tryz.ntmps240
 go_wp2
 go_ret
 exact ⟨rfl,(Below.refl _ _).alloc (Nat.le_refl _) _⟩
theorem fadd_any (w:World) (s:Nat) (hs:s<4294967296) (v:Value) (bs:List Nat) (h:LSl en8 1 w v bs) (hlt: ∀x∈bs,x<256) (hl:bs.length≤50000):Calls Tryz.prog 225 #[.int .u32 s,v] w
  fun e w'=>e= .returned (.int .u32 (fadd s bs:Nat))∧Below w.heap.size w w':=by
 obtain ⟨ao,cap,rfl,h1,h2,h3⟩:=h
 unfold maxLen at h2
 go_enter Tryz.func225,Tryz.ntmps225
 go_wp2_with fail
 refine (fof_any w s hs).mono ?_
 rintro e w2 ⟨rfl,hb2⟩
 have hb3:Below w.heap.size w (w2.alloc (.cells #[.int .u32 ((flOf s).1:Nat), .int .u32 ((flOf s).2:Nat)] 324)):=hb2.alloc hb2.size _
 have hH:(w2.alloc (.cells #[.int .u32 ((flOf s).1:Nat), .int .u32 ((flOf s).2:Nat)] 324)).heap[w2.heap.size]?=some (.cells #[.int .u32 ((flOf s).1:Nat), .int .u32 ((flOf s).2:Nat)] 324 (0,0)):=heap_alloc_at
 have hbz:=hb2.size
 clear hb2
 go_wp2_with fail
 go_loopw [12] (fun jv wi=> ∃k:Nat,k≤bs.length∧jv= .int .i64 k∧wi.heap[w2.heap.size]?=some (.cells #[.int .u32 (((bs.take k).foldl flStep (flOf s)).1:Nat), .int .u32 (((bs.take k).foldl flStep (flOf s)).2:Nat)] 324 (0,0))∧Below w.heap.size w wi) (fun jv _=>bs.length-(intOf jv).toNat)
 case atStart=>exact ⟨0,Nat.zero_le _,rfl,hH,hb3⟩
 case round=>
  obtain ⟨k,hk,rfl,hH,hb⟩:=hrel
  clear hb3
  have hft:=fold_lt (bs.take k) _ (flOf_lt s)
  by_cases hkl:k<bs.length
  ·have hkl':(k:Int)<(bs.length:Int):=by omega
   obtain ⟨c,hc⟩: ∃c,bs[k]?=some c:=⟨bs[k],List.getElem?_eq_getElem hkl⟩
   have hc8:=hlt c (List.mem_of_getElem? hc)
   obtain ⟨b,off,rfl,hbl,hcells⟩:=h3 (by omega)
   have hcell:=(hcells k c hc).below' hb hbl 0 (by simp)
   simp only [Nat.mul_one,Nat.add_zero] at hcell
   have hnx:(bs.take (k+1)).foldl flStep (flOf s)=flStep ((bs.take k).foldl flStep (flOf s)) c:=by
    rw [List.take_add_one,hc]
    simp [List.foldl_append]
   obtain ⟨⟨f,g⟩,hfg⟩: ∃x,(bs.take k).foldl flStep (flOf s)=x:=⟨_,rfl⟩
   rw [hfg] at hH hft hnx
   simp only at hH hft
   have c0:wr.cell? ⟨w2.heap.size,0,none⟩=some (.int .u32 f):=cell_of hH rfl
   have c1:wr.cell? ⟨w2.heap.size,1,none⟩=some (.int .u32 g):=cell_of hH rfl
   have HC:wr.cell? ⟨b,off+k,none⟩=some (.int .u8 (c:Nat)):=hcell
   have HB:=Lib.hid hb
   have HH:=Lib.hid hH
   have HNX:=Lib.hid hnx
   have ht:=ftake_any wr f g c hft.1 hft.2 hc8
   have hzlt:=lt_of_block hH
   clear hb hH hnx hfg hcells hcell hc
   go_wp2_with fail
   refine ht.mono ?_
   rintro e w4 ⟨rfl,hb4⟩
   have hH4:=(hb4.block _ hzlt).trans HH.out
   have d0:w4.cell? ⟨w2.heap.size,0,none⟩=some (.int .u32 f):=cell_of hH4 rfl
   have d1:w4.cell? ⟨w2.heap.size,1,none⟩=some (.int .u32 g):=cell_of hH4 rfl
   have hf4: ∀o,w4.frozen? ⟨w2.heap.size,o,none⟩=false:=fun o=>free_of hH4
   have HH4:=Lib.hid hH4
   have HB4:=Lib.hid (HB.out.trans (hb4.mono HB.out.size))
   clear hb4 hH4 ht c0 c1 HC
   generalize flStep (f,g) c=fg2 at*
   go_wp2
   go_roundw
   case rel=>
    refine ⟨k+1,by omega,by go_num,?_,?_⟩
    ·rw [HNX.out]
     exact heap_setCell_at (heap_setCell_at HH4.out)
    ·exact (HB4.out.setCell (p:=⟨w2.heap.size,0,none⟩) hbz _).setCell (p:=⟨w2.heap.size,1,none⟩) hbz _
   case measure=>simp [intOf];omega
  ·obtain rfl:k=bs.length:=by omega
   rw [List.take_length] at hH hft
   have c0:wr.cell? ⟨w2.heap.size,0,none⟩=_:=cell_of hH rfl
   have c1:wr.cell? ⟨w2.heap.size,1,none⟩=_:=cell_of hH rfl
   have hw:=fwhole_any wr _ _ hft.1 hft.2
   have HB:=Lib.hid hb
   obtain ⟨z,hz⟩: ∃z,(bs.foldl flStep (flOf s)).2*65536+(bs.foldl flStep (flOf s)).1=z:=⟨_,rfl⟩
   have HE:Hid (fadd s bs=z):=Lib.hid hz
   rw [hz] at hw
   clear hb hH hz
   generalize bs.foldl flStep (flOf s)=x at*
   go_wp2_with fail
   refine hw.mono ?_
   rintro e w4 ⟨rfl,hb4⟩
   go_wp2
   go_ret
   exact ⟨by rw [HE.out];rfl,HB.out.trans (hb4.mono HB.out.size)⟩
theorem fsum_any (w:World) (v:Value) (bs:List Nat) (h:LSl en8 1 w v bs) (hlt: ∀x∈bs,x<256) (hl:bs.length≤50000):Calls Tryz.prog 214 #[v] w
  fun e w'=>e= .returned (.int .u32 (fsum bs:Nat))∧Below w.heap.size w w':=by
 have ha:=fadd_any w 0 (by decide) v bs h hlt hl
 obtain ⟨ao,cap,rfl,_⟩:=h
 unfold fsum
 generalize fadd 0 bs=x at*
 go_enter Tryz.func214,Tryz.ntmps214
 go_wp2_with fail
 refine ha.mono ?_
 rintro e w2 ⟨rfl,hb2⟩
 go_wp2
 go_ret
 exact ⟨rfl,hb2⟩
end Go.Proofs.YtjdbbnhnbdocbaaGreat
namespace Go.Tn.Lp
open Go.RowKit
def bytesN (x:Nat):Nat→List Nat
 | 0=> []
 | n+1=>x/256 ^ n %256::bytesN x n
theorem bytesN_len (x:Nat): ∀n,(bytesN x n).length=n
 | 0=>rfl
 | n+1=>by simp [bytesN,bytesN_len x n]
theorem bytesN_get (x:Nat): ∀(n k:Nat),k<n→(bytesN x n)[k]?=some (x/256 ^ (n-1-k) %256)
 | n+1,0,_=>by simp [bytesN]
 | n+1,k+1,h=>by
  have:=bytesN_get x n k (by omega)
  simp only [bytesN,List.getElem?_cons_succ,this]
  rw [show n+1-1-(k+1)=n-1-k by omega]
theorem bytesN_lt (x:Nat): ∀n, ∀b∈bytesN x n,b<256
 | 0,_,h=>by cases h
 | n+1,b,h=>by
  rcases List.mem_cons.1 h with rfl|h
  ·exact Nat.mod_lt _ (by decide)
  ·exact bytesN_lt x n b h
def writeAt (L:List Nat) (o:Nat):List Nat→List Nat
 | []=>L
 | b::r=>writeAt (L.set o b) (o+1) r
theorem writeAt_len: ∀(bs:List Nat) (L:List Nat) (o:Nat),(writeAt L o bs).length=L.length
 | [],_,_=>rfl
 | b::r,L,o=>by simp [writeAt,writeAt_len r]
theorem writeAt_snoc: ∀(bs:List Nat) (L:List Nat) (o b:Nat),writeAt L o (bs++ [b])=(writeAt L o bs).set (o+bs.length) b
 | [],_,_,_=>by simp [writeAt]
 | c::r,L,o,b=>by
  simp only [List.cons_append,writeAt,writeAt_snoc r,List.length_cons]
  rw [show o+1+r.length=o+(r.length+1) by omega]
theorem writeAt_eq: ∀(bs:List Nat) (L:List Nat) (o:Nat),o+bs.length≤L.length→writeAt L o bs=L.take o++bs++L.drop (o+bs.length)
 | [],L,o,_=>by simp [writeAt]
 | b::r,L,o,h=>by
  rw [List.length_cons] at h
  simp only [writeAt]
  rw [writeAt_eq r (L.set o b) (o+1) (by rw [List.length_set];omega)]
  have h1:(L.set o b).take (o+1)=L.take o++ [b]:=by
   rw [List.take_add_one,List.take_set_of_le (Nat.le_refl o),List.getElem?_set_self (by omega)]
   simp
  have h2:(L.set o b).drop (o+1+r.length)=L.drop (o+(b::r).length):=by
   rw [List.drop_set_of_lt (by omega),List.length_cons,show o+1+r.length=o+(r.length+1) by omega]
  rw [h1,h2]
  simp
theorem writeAt_lt {bs L:List Nat} {o:Nat} (hL: ∀x∈L,x<256) (hb: ∀x∈bs,x<256) (h:o+bs.length≤L.length): ∀x∈writeAt L o bs,x<256:=fun x hx=>by
 rw [writeAt_eq bs L o h] at hx
 rcases List.mem_append.1 hx with hx|hx
 ·rcases List.mem_append.1 hx with hx|hx
  ·exact hL x (List.mem_of_mem_take hx)
  ·exact hb x hx
 ·exact hL x (List.mem_of_mem_drop hx)
def numOf (b:List Nat):Nat:=b.foldl (fun x c=>x*256+c) 0
theorem numOf_snoc (b:List Nat) (c:Nat):numOf (b++ [c])=numOf b*256+c:=by simp [numOf,List.foldl_append]
theorem numOf_lt: ∀(n:Nat) (b:List Nat),b.length=n→(∀x∈b,x<256)→numOf b<256 ^ n
 | 0,b,h,_=>by
  have:b= []:=List.eq_nil_of_length_eq_zero h
  subst this
  decide
 | n+1,b,h,hb=>by
  obtain ⟨i,c,rfl⟩: ∃i c,b=i++ [c]:=⟨b.dropLast,b.getLast (fun e=>by rw [e] at h;simp at h),(List.dropLast_concat_getLast _).symm⟩
  have h1:=numOf_lt n i (by simp at h;exact h) fun x hx=>hb x (List.mem_append_left _ hx)
  have h2:=hb c (by simp)
  rw [numOf_snoc,Nat.pow_succ]
  omega
end Go.Tn.Lp
namespace Go.Proofs.YtjdbbnhnbdocbaaGreat
open Go.RowKit Go.Tn Go.Tn.Bt Go.Tn.Lp
def cells8 (L:List Nat):Array Value:=(L.map fun b=>Value.int .u8 ((b:Nat):Int)).toArray
theorem cells8_get {L:List Nat} {i b:Nat} (h:L[i]?=some b):(cells8 L)[i]?=some (.int .u8 (b:Nat)):=by simp [cells8,h]
theorem cells8_set (L:List Nat) (i b:Nat):(cells8 L).setIfInBounds i (.int .u8 (b:Nat))=cells8 (L.set i b):=by simp [cells8,List.map_set]
def Bk (w:World) (r:Nat) (L:List Nat):Prop:=w.heap[r]?=some (.cells (cells8 L) 5 (0,0))
theorem Bk.cell {w:World} {r:Nat} {L:List Nat} (h:Bk w r L) {i b:Nat} (hi:L[i]?=some b):w.cell? ⟨r,i,none⟩=some (.int .u8 (b:Nat)):=cell_of h (cells8_get hi)
theorem Bk.free {w:World} {r:Nat} {L:List Nat} (h:Bk w r L) (o:Nat):w.frozen? ⟨r,o,none⟩=false:=free_of h
theorem Bk.set {w:World} {r:Nat} {L:List Nat} (h:Bk w r L) (i b:Nat):Bk (w.setCell ⟨r,i,none⟩ (.int .u8 (b:Nat))) r (L.set i b):=by
 unfold Bk
 rw [←cells8_set]
 exact heap_setCell_at h
theorem Bk.lt {w:World} {r:Nat} {L:List Nat} (h:Bk w r L):r<w.heap.size:=lt_of_block h
theorem Bk.below {w w':World} {r:Nat} {L:List Nat} (h:Bk w r L) (hb:Below w.heap.size w w'):Bk w' r L:=(hb.block r h.lt).trans h
theorem Bk.sl {w:World} {r:Nat} {L:List Nat} (h:Bk w r L) {o n cap:Nat} (h1:o+n≤L.length) (h2:n≤cap) (h3:cap≤1000):LSl en8 1 w (.slice (some ⟨r,o,none⟩) n cap) ((L.drop o).take n):=by
 have hl:((L.drop o).take n).length=n:=by rw [List.length_take,List.length_drop];omega
 refine ⟨_,cap,by rw [hl],by omega,by unfold maxLen;omega,fun _=>⟨r,o,rfl,h.lt,fun i x hi j hj=> ?_⟩⟩
 have hj0:j=0:=by simp at hj;exact hj
 subst hj0
 have hi':L[o+i]?=some x:=by
  rw [List.getElem?_take] at hi
  split at hi
  ·rw [List.getElem?_drop] at hi
   exact hi
  ·cases hi
 rw [Nat.mul_one,Nat.add_zero]
 exact h.cell hi'
theorem byte_cast (x m:Nat):(x:Int)/256 ^ m %256=((x/256 ^ m %256:Nat):Int):=by
 rw [Int.natCast_emod,Int.natCast_ediv,Int.natCast_pow]
 rfl
theorem number_any (w:World) (r:Nat) (L:List Nat) (h:Bk w r L) (x n o cap:Nat) (hx:x<2 ^ 64) (hn:n≤8) (hc:n≤cap) (hcm:cap≤1000) (ho:o+n≤L.length) (hoL:L.length≤1000):
  Calls Tryz.prog 212 #[.slice (some ⟨r,o,none⟩) n cap, .int .u64 x] w
  fun e w'=>e= .returned (.tuple #[])∧Bk w' r (writeAt L o (bytesN x n))∧Mod (fun x=>x=r) w w':=by
 go_enter Tryz.func212,Tryz.ntmps212
 go_wp2
 go_loopw [7] (fun jv wi=> ∃k:Nat,k≤n∧jv= .int .i64 k∧Bk wi r (writeAt L o ((bytesN x n).take k))∧Mod (fun x=>x=r) w wi) (fun jv _=>n-(intOf jv).toNat)
 case atStart=>exact ⟨0,Nat.zero_le _,rfl,h,Mod.refl _ _⟩
 case round=>
  obtain ⟨k,hk,rfl,hb,hm⟩:=hrel
  by_cases hkn:k<n
  ·have hkn':(k:Int)<(n:Int):=by omega
   have hn8:(n:Int)≤8:=by omega
   have hk0:(0:Int)≤k:=by omega
   have hnx:(bytesN x n).take (k+1)=(bytesN x n).take k++ [x/256 ^ (n-1-k) %256]:=by
    rw [List.take_add_one,bytesN_get x n k hkn]
    rfl
   have hlk:((bytesN x n).take k).length=k:=by rw [List.length_take,bytesN_len];omega
   have hlen:(writeAt L o ((bytesN x n).take k)).length=L.length:=writeAt_len _ _ _
   obtain ⟨old,hold⟩: ∃old,(writeAt L o ((bytesN x n).take k))[o+k]?=some old:=⟨_,List.getElem?_eq_getElem (by rw [hlen];omega)⟩
   have hcell:=hb.cell hold
   have hfr:=hb.free (o+k)
   have hset:=hb.set (o+k) (x/256 ^ (n-1-k) %256)
   have hw1:IntKind.i64.wrap (8*((n:Int)-1-k))=((8*(n-1-k):Nat):Int):=by rw [IntWalk.i64_in _ (by omega)];omega
   have hby:IntKind.u8.wrap ((x:Int)/2 ^ (8*(n-1-k)))=((x/256 ^ (n-1-k) %256:Nat):Int):=by
    have e:((x:Int)/2 ^ (8*(n-1-k)))=((x/2 ^ (8*(n-1-k)):Nat):Int):=by norm_cast
    rw [e,wrap8,Nat.pow_mul]
   have HM:=Lib.hid hm
   have HS:=Lib.hid hset
   have HN:Hid (writeAt L o ((bytesN x n).take (k+1))=(writeAt L o ((bytesN x n).take k)).set (o+k) (x/256 ^ (n-1-k) %256)):=Lib.hid (by rw [hnx,writeAt_snoc,hlk])
   clear hb hm hset hnx hlk hlen hold
   go_wp2
   rw [byte_cast]
   refine ⟨⟨k+1,by omega,by go_num,?_,?_⟩,by simp [intOf];omega⟩
   ·rw [HN.out]
    exact HS.out
   ·exact HM.out.setCell _ _ fun _=>rfl
  ·obtain rfl:k=n:=by omega
   have e:(bytesN x k).take k=bytesN x k:=List.take_of_length_le (by rw [bytesN_len];omega)
   rw [e] at hb
   have HB:=Lib.hid hb
   have HM:=Lib.hid hm
   clear hb hm e
   go_wp2
   go_end0
   exact ⟨rfl,HB.out,HM.out⟩
theorem read_any (w:World) (v:Value) (bs:List Nat) (h:LSl en8 1 w v bs) (hlt: ∀x∈bs,x<256) (hl:bs.length≤8):Calls Tryz.prog 165 #[v] w
  fun e w'=>e= .returned (.int .u64 (numOf bs:Nat))∧w'=w:=by
 obtain ⟨ao,cap,rfl,h1,h2,h3⟩:=h
 unfold maxLen at h2
 go_enter Tryz.func165,Tryz.ntmps165
 go_wp2
 go_loopw [3,8] (fun xv jv wi=> ∃k:Nat,k≤bs.length∧jv= .int .i64 k∧xv= .int .u64 (numOf (bs.take k):Nat)∧wi=w) (fun _ jv _=>bs.length-(intOf jv).toNat)
 case atStart=>exact ⟨0,Nat.zero_le _,rfl,rfl,rfl⟩
 case round=>
  obtain ⟨k,hk,rfl,rfl,rfl⟩:=hrel
  by_cases hkl:k<bs.length
  ·have hkl':(k:Int)<(bs.length:Int):=by omega
   obtain ⟨c,hc⟩: ∃c,bs[k]?=some c:=⟨bs[k],List.getElem?_eq_getElem hkl⟩
   have hc8:=hlt c (List.mem_of_getElem? hc)
   have hc8':(c:Int)<256:=by omega
   obtain ⟨b,off,rfl,hbl,hcells⟩:=h3 (by omega)
   have hcell:=hcells k c hc 0 (by simp)
   simp only [Nat.mul_one,Nat.add_zero] at hcell
   have HC:wr.cell? ⟨b,off+k,none⟩=some (.int .u8 (c:Nat)):=hcell
   have hlen:(bs.take k).length=k:=by rw [List.length_take];omega
   have hX:=numOf_lt k (bs.take k) hlen fun x hx=>hlt x (List.mem_of_mem_take hx)
   have hnx:numOf (bs.take (k+1))=numOf (bs.take k)*256+c:=by
    rw [List.take_add_one,hc]
    exact numOf_snoc _ _
   have h56:256 ^ k≤256 ^ 7:=Nat.pow_le_pow_right (by decide) (by omega)
   obtain ⟨X,hXX⟩: ∃X,numOf (bs.take k)=X:=⟨_,rfl⟩
   rw [hXX] at hX hnx ⊢
   have hXlt:X<72057594037927936:=Nat.lt_of_lt_of_le hX h56
   have hor:bits .or .u64 ((X:Int)*256) (c:Int)=((X*256+c:Nat):Int):=by
    have h:=or64 (X*256) c (by omega) (by omega)
    rw [show X*256 ||| c=X*256+c from or_add X c 8 (by omega)] at h
    rw [←h]
    rfl
   have hXi:(X:Int)<72057594037927936:=by omega
   have HN:=Lib.hid hnx
   clear hcell hcells hc hnx hXX hX h56 hlen
   go_wp2
   exact ⟨⟨k+1,by omega,by go_num,by rw [HN.out];rfl,trivial⟩,by simp [intOf];omega⟩
  ·obtain rfl:k=bs.length:=by omega
   rw [List.take_length]
   go_wp2
   go_ret
   exact ⟨rfl,rfl⟩
theorem epoch_any (w:World) (s:Nat) (hs:s<2 ^ 64):Calls Tryz.prog 164 #[.int .u64 s] w fun e w'=>e= .returned (.int .u64 (s/1099511627776:Nat))∧w'=w:=by
 have hd:(s:Int)/1099511627776=((s/1099511627776:Nat):Int):=by omega
 generalize s/1099511627776=q at*
 go_enter Tryz.func164,Tryz.ntmps164
 go_wp2
 go_ret
 exact ⟨rfl,rfl⟩
theorem count_any (w:World) (s:Nat) (hs:s<2 ^ 64):Calls Tryz.prog 205 #[.int .u64 s] w fun e w'=>e= .returned (.int .u64 (s %1099511627776:Nat))∧w'=w:=by
 have ha:bits .and .u64 (s:Int) 1099511627775=((s %1099511627776:Nat):Int):=by
  have h:=Bits.bits_and s 1099511627775 hs (by decide)
  rw [show s &&& 1099511627775=s %1099511627776 from Nat.and_two_pow_sub_one_eq_mod s 40] at h
  exact h
 generalize s %1099511627776=r at*
 go_enter Tryz.func205,Tryz.ntmps205
 go_wp2
 go_ret
 exact ⟨rfl,rfl⟩
theorem stamp_ok (w:World) (e c:Nat) (he:e≤16777215) (hc:c≤1099511627775):Calls Tryz.prog 211 #[.int .u64 e, .int .u64 c] w
  fun r w'=>r= .returned (.tuple #[.int .u64 (e*1099511627776+c:Nat), .int .i64 0])∧w'=w:=by
 have he':(e:Int)≤16777215:=by omega
 have hc':(c:Int)≤1099511627775:=by omega
 have hor:bits .or .u64 ((e:Int)*1099511627776) (c:Int)=((e*1099511627776+c:Nat):Int):=by
  have h:=or64 (e*1099511627776) c (by omega) (by omega)
  rw [show e*1099511627776 ||| c=e*1099511627776+c from or_add e c 40 (by omega)] at h
  rw [←h]
  rfl
 generalize e*1099511627776+c=s at*
 go_enter Tryz.func211,Tryz.ntmps211
 go_wp2
 go_ret2
 exact ⟨rfl,rfl⟩
end Go.Proofs.YtjdbbnhnbdocbaaGreat
