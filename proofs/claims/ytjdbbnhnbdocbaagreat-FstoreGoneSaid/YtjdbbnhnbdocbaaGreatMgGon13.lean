import Derived.Test.YtjdbbnhnbdocbaaGreatMgGon12
import Derived.Test.YtjdbbnhnbdocbaaGreatMgGon4
namespace Go.Tn.Bt
def getA (B:List Nat) (at_ err n:Nat):Nat×Nat×Nat:=
 if err≠0 then (0,at_,err) else if at_+n≤8*B.length then (natOf (((unpack B).drop at_).take n),at_+n,0) else (0,at_,3)
theorem getA_le (B:List Nat) {at_:Nat} (err n:Nat) (h:at_≤8*B.length):(getA B at_ err n).2.1≤8*B.length:=by
 unfold getA
 split
 ·exact h
 ·split
  ·assumption
  ·exact h
theorem natOf_take_lt (l:List Bool) (n:Nat):natOf (l.take n)<2 ^ n:=
 Nat.lt_of_lt_of_le (natOf_lt _) (Nat.pow_le_pow_right (by decide) (by rw [List.length_take];omega))
end Go.Tn.Bt
namespace Go.Tn.Lp
open Go.Tn.Bt
theorem unsealB_ok {bs:List Nat} (h: ∀x∈bs,x<256) {p:Pc} (hu:unsealB bs=some p):p.ok∧ ∀x∈p.da,x<256:=by
 unfold unsealB at hu
 split at hu
 ·rename_i hc
  cases hu
  have hl:(bs.take 8).length=8:=by rw [List.length_take];omega
  have hn:=numOf_lt 8 (bs.take 8) hl fun x hx=>h x (List.mem_of_mem_take hx)
  refine ⟨⟨?_,?_,?_⟩,fun x hx=>h x (List.mem_of_mem_drop (List.mem_of_mem_take hx))⟩
  ·simp only [pieceOf]
   omega
  ·simp only [pieceOf]
   omega
  ·simp only [pieceOf,List.length_take]
   omega
 ·cases hu
end Go.Tn.Lp
namespace Go.Proofs.YtjdbbnhnbdocbaaGreat
open Go.RowKit Go.Tn Go.Tn.Bt Go.Tn.Lp Go.Tn.Dk
theorem get_any {w:World} {a:Nat} {v:Value} {B:List Nat} {at_ err:Nat} (h:RdAt w a v B at_ err) (hle:at_≤8*B.length) (n:Nat) (hn:n≤64):Calls Tryz.prog 63 #[.pointer (some ⟨a,0,none⟩), .int .i64 n] w
  fun e w'=>e= .returned (.int .u64 ((getA B at_ err n).1:Nat))∧RdAt w' a v B (getA B at_ err n).2.1 (getA B at_ err n).2.2∧Mod (fun x=>x=a) w w':=by
 unfold getA
 by_cases he:err≠0
 ·rw [if_pos he]
  refine (get_err h he n).mono ?_
  rintro e w' ⟨rfl,rfl⟩
  exact ⟨rfl,h,Mod.refl _ _⟩
 ·obtain rfl:err=0:=by omega
  rw [if_neg he]
  by_cases hl:at_+n≤8*B.length
  ·rw [if_pos hl]
   exact get_ok h n hn hl
  ·rw [if_neg hl]
   exact get_short h n hn hle (by omega)
theorem aggHd (a b c:Int):AggT Tryz.prog 123 (#[.int .u64 a, .int .u64 b, .int .u64 c]:Array Value).size:=⟨⟨_,Tryz.underlying123,rfl⟩,by kernel_rfl⟩
theorem oneHd (a b c:Int):(#[.int .u64 a, .int .u64 b, .int .u64 c]:Array Value).all (·.oneCell')=true:=by simp [Value.oneCell']
def hdCs (h:Hd):Array Value:= #[.int .u64 (h.gen:Nat), .int .u64 (h.tail:Nat), .int .u64 (h.floor:Nat)]
def hd0:Hd:=⟨0,0,0⟩
def hreadV (o:Option Hd):Value:= .tuple #[.agg (hdCs (o.getD hd0)), .bool o.isSome]
theorem get_lt {d:Dsk} (h:d.ok) {i:Nat} (hi:i<d.L.length): ∀x∈d.get i,x<256:=(h.get hi).2
def hdNums (da:List Nat):Nat×Nat×Bool:=
 let r1:=getA da 0 0 40
 let r2:=getA da r1.2.1 r1.2.2 24
 (r1.1,r2.1,endR da r2.2.1 r2.2.2=0)
theorem hdNums_ok (da:List Nat):(hdNums da).2.2=true↔da.length=8:=by
 unfold hdNums getA
 simp only [ne_eq,not_true_eq_false,if_false,Nat.zero_add]
 by_cases h1:40≤8*da.length
 ·simp only [h1,if_true,not_true_eq_false,if_false]
  by_cases h2:40+24≤8*da.length
  ·simp only [h2,if_true,endR,ne_eq,not_true_eq_false,if_false]
   by_cases h3:da.length=8
   ·simp [h3]
   ·rw [if_pos (by omega)]
    simp [h3]
  ·simp only [h2,if_false,endR]
   simp
   omega
 ·simp only [h1,if_false,endR]
  simp
  omega
theorem hdNums_8 {da:List Nat} (h:da.length=8):(hdNums da).1=natOf ((unpack da).take 40)∧(hdNums da).2.1=natOf (((unpack da).drop 40).take 24):=by
 unfold hdNums getA
 simp [h]
theorem headP_nums (ep ct:Nat) (da:List Nat) (i:Nat) (hi:ct %2=i):headP ⟨ep,ct,true,true,da⟩ i=if (hdNums da).2.2=true then some ⟨ct,(hdNums da).1,(hdNums da).2.1⟩ else none:=by
 unfold headP
 by_cases h8:da.length=8
 ·rw [if_pos ⟨rfl,rfl,hi,h8⟩,if_pos ((hdNums_ok da).2 h8)]
  obtain ⟨h1,h2⟩:=hdNums_8 h8
  rw [h1,h2]
 ·rw [if_neg (fun e=>h8 e.2.2.2),if_neg (fun e=>h8 ((hdNums_ok da).1 e))]
set_option maxRecDepth 20000 in
set_option maxHeartbeats 4000000 in
theorem hread_any {w:World} {F:Nat→Prop} {p:Nat} {d:Dsk} (h:DAt w F p d) (a i:Nat) (hi:i≤1) (ha:a+i<d.L.length):
  Calls Tryz.prog 116 #[.pointer (some ⟨p,0,none⟩), .int .i64 a, .int .i64 i] w fun e w'=>e= .returned (hreadV (hdB (d.get (a+i)) i))∧Below w.heap.size w w':=by
 have hb0:Below w.heap.size w (w.alloc (.cells #[.int .u64 0, .int .u64 0, .int .u64 0] 123)):=(Below.refl _ _).alloc (Nat.le_refl _) _
 have hr:=dread_any (h.below hb0) (a+i) ha
 have hlt:=get_lt h.ok ha
 have hlen:=(h.ok.get ha).1
 have hhi:=h.ok.hi
 have hsum:IntKind.i64.wrap ((a:Int)+i)=((a+i:Nat):Int):=by rw [IntWalk.i64_in _ (by omega)];omega
 have h1:(a:Int)≤4096:=by omega
 have h1n:a≤4096:=by omega
 have h2:(i:Int)≤1:=by omega
 have hz0:(w.alloc (.cells #[.int .u64 0, .int .u64 0, .int .u64 0] 123)).heap.size=w.heap.size+1:=by simp
 have hh0:(w.alloc (.cells #[.int .u64 0, .int .u64 0, .int .u64 0] 123)).heap[w.heap.size]?=some (.cells #[.int .u64 0, .int .u64 0, .int .u64 0] 123 (0,0)):=heap_alloc_at
 have HB0:=Lib.hid hb0
 have HH0:=Lib.hid hh0
 have HZ0:=Lib.hid hz0
 have HLT:=Lib.hid hlt
 have HLEN:=Lib.hid hlen
 obtain ⟨bs,hbs⟩: ∃bs,d.get (a+i)=bs:=⟨_,rfl⟩
 rw [hbs] at hr HLT HLEN ⊢
 clear hb0 hh0 hz0 h hlt hlen hbs
 go_enter Tryz.func116,Tryz.ntmps116
 go_wp2_with fail
 generalize w.alloc (.cells #[.int .u64 0, .int .u64 0, .int .u64 0] 123)=w0 at*
 refine hr.mono ?_
 rintro e w2 ⟨v,rfl,hv,hb2⟩
 have hu:=unseal_any w2 v bs hv.sl HLT.out
 obtain ⟨va,vc,rfl, -⟩:=hv.sl
 have HB2:Hid (Below (w.heap.size+1) w0 w2):=Lib.hid (hb2.mono (by rw [HZ0.out];exact Nat.le_refl _))
 clear hv hb2 hr
 go_wp2_with fail
 refine hu.mono ?_
 rintro e w3 ⟨hb3,hR⟩
 have HB3:Hid (Below (w.heap.size+1) w0 w3):=Lib.hid (HB2.out.trans (hb3.mono (by have:=HB2.out.size;rw [HZ0.out] at this;omega)))
 clear hb3 hu
 have hz3:w.heap.size+1≤w3.heap.size:=by have:=HB3.out.size;rw [HZ0.out] at this;exact this
 cases hc:unsealB bs with
 | none=>
  have HE:Hid (hdB bs i=none):=Lib.hid (by unfold hdB;rw [hc])
  rw [hc] at hR
  simp only at hR
  subst hR
  clear hc
  have hb4:Below (w.heap.size+1) w0 (w3.alloc (.cells #[.int .u64 0, .int .u64 0, .bool false, .bool false, .slice none 0 0] 222)):=HB3.out.alloc (by omega) _
  have hq:=(hb4.block w.heap.size (by omega)).trans HH0.out
  have HB4:=Lib.hid hb4
  have HQ:=Lib.hid hq
  clear hb4 hq
  go_wp2_with (first
   | ((with_reducible refine wpList_storeB (aggHd 0 0 0) ?_ ?_ HQ.out rfl (oneHd _ _ _) ?_);rfl;rfl;(intro w5 hh5 hm5;have HH5:=Lib.hid hh5;have HM5:=Lib.hid hm5;clear hh5 hm5);go_frame)
   | fail)
  refine bodyPost_ret (results_cellT rfl _ rfl (aggHd 0 0 0) (lies_of HH5.out)) rfl ?_
  rw [HE.out]
  exact ⟨rfl,HB0.out.trans ((HB4.out.mono (Nat.le_succ _)).trans (HM5.out.below (by have:=HB4.out.size;rw [HZ0.out] at this;omega) fun x hx e=>by omega))⟩
 | some q=>
  have HE:Hid (hdB bs i=headP q i):=Lib.hid (by unfold hdB;rw [hc])
  obtain ⟨hqo,hqd⟩:=unsealB_ok HLT.out hc
  rw [hc] at hR
  simp only at hR
  obtain ⟨v4,rfl,hO4⟩:=hR
  obtain ⟨ep,ct,fi,la,da⟩:=q
  obtain ⟨a4,n4,c4,rfl⟩:=hO4.shape
  have hql1:da.length≤106:=hqo.2.2
  have hql2:ct<2 ^ 64:=Nat.lt_of_le_of_lt hqo.2.1 (by decide)
  simp only at hqd
  have hb4:Below (w.heap.size+1) w0 (w3.alloc (.cells #[.int .u64 (ep:Nat), .int .u64 (ct:Nat), .bool fi, .bool la, .slice a4 n4 c4] 222)):=HB3.out.alloc (by omega) _
  have hX:(w3.alloc (.cells #[.int .u64 (ep:Nat), .int .u64 (ct:Nat), .bool fi, .bool la, .slice a4 n4 c4] 222)).heap[w3.heap.size]?=some (.cells #[.int .u64 (ep:Nat), .int .u64 (ct:Nat), .bool fi, .bool la, .slice a4 n4 c4] 222 (0,0)):=heap_alloc_at
  have hz4:(w3.alloc (.cells #[.int .u64 (ep:Nat), .int .u64 (ct:Nat), .bool fi, .bool la, .slice a4 n4 c4] 222)).heap.size=w3.heap.size+1:=by simp
  have hsl4:=(hO4.sl el8.len).below (((Below.refl w3.heap.size w3).alloc (Nat.le_refl _) _):Below w3.heap.size w3 (w3.alloc (.cells #[.int .u64 (ep:Nat), .int .u64 (ct:Nat), .bool fi, .bool la, .slice a4 n4 c4] 222)))
  have hq:=(hb4.block w.heap.size (by omega)).trans HH0.out
  have HB4:=Lib.hid hb4
  have HQ:=Lib.hid hq
  have HX:=Lib.hid hX
  have HZ4:=Lib.hid hz4
  have HSL4:=Lib.hid hsl4
  have HQD:=Lib.hid hqd
  clear hqo hc hO4 hb4 hq hX hz4 hsl4 hqd
  simp only [pcCs]
  by_cases hfl:fi=true∧la=true∧ct %2=i
  ·obtain ⟨rfl,rfl,hct⟩:=hfl
   have HP:=headP_nums ep ct da i hct
   have hpl:=fun w'=>hplace_any w' a ct (by omega) hql2
   rw [hct] at hpl
   have hne:((((a+i:Nat):Int)) !=(a:Int)+i)=false:=by rw [bne_eq_false_iff_eq];omega
   have HE2:=Lib.hid (HE.out.trans HP)
   clear HP hct
   generalize ((a+i:Nat):Int)=ai at*
   go_upto_region 7 with (first
    | (go_at_call 167;refine (hpl _).mono ?_;rintro e w4 ⟨rfl,hw⟩;obtain rfl:=hw.symm;clear hw)
    | fail)
   have hop:=ropen_any (w3.alloc (.cells #[.int .u64 (ep:Nat), .int .u64 (ct:Nat), .bool true, .bool true, .slice a4 n4 c4] 222)) _ da HSL4.out HQD.out (by omega)
   go_upto_region 8 with (first
    | (go_at_call 62;refine hop.mono ?_;rintro e w5 ⟨ra,rv,rfl,hR5,hra,hrv,hb5⟩;have HR:=Lib.hid hR5;have HVR:=Lib.hid hrv;have HB45:=Lib.hid hb5;clear hR5 hrv hb5 hop)
    | fail)
   rw [HZ4.out] at hra
   have hB5:Below (w.heap.size+1) w0 w5:=HB4.out.trans (HB45.out.mono (by rw [HZ4.out];omega))
   have HB5:=Lib.hid hB5
   have hc5:w5.cell? ⟨w3.heap.size,1,none⟩=some (.int .u64 (ct:Nat)):=cell_of (o:=1) ((HB45.out.block w3.heap.size (by rw [HZ4.out];omega)).trans HX.out) rfl
   clear hB5
   go_cut [12] (fun s wx=> ∃bz,s= .pointer (some ⟨bz,0,none⟩)∧wx.heap[bz]?=some (.cells #[.int .u64 (ct:Nat), .int .u64 ((getA da 0 0 40).1:Nat), .int .u64 ((getA da (getA da 0 0 40).2.1 (getA da 0 0 40).2.2 24).1:Nat)] 123 (0,0))∧
    RdAt wx ra rv da (getA da (getA da 0 0 40).2.1 (getA da 0 0 40).2.2 24).2.1 (getA da (getA da 0 0 40).2.1 (getA da 0 0 40).2.2 24).2.2∧Below (w.heap.size+1) w0 wx)
   case first=>
    have hS5:w5.drew.cell? ⟨w3.heap.size,1,none⟩=some (.int .u64 (ct:Nat)):=hc5
    refine wp_region_t (fun w'=>w'.cell? ⟨w3.heap.size,1,none⟩=some (.int .u64 (ct:Nat))) [(0,1),(1,0),(2,1),(4,1),(3,2),(5,2),(6,1),(7,2),(8,3)] (.one 0 1 (.one 1 0 (.one 2 1 (.one 4 1 (.two 3 7 (.two 5 7 (.one 6 1 (.one 7 2 (.one 8 3 .nil))) (.one 5 2 (.one 6 1 (.one 8 3 .nil)))) (.one 3 2 (.one 5 2 (.one 6 1 (.one 8 3 .nil))))))))) (by kernel_rfl) (by kernel_rfl) (by intro d v c a w h;cases d<;>exact h) ?_
    iterate 1 (refine t_take rfl (fun K hK=> ?_);go_simp;refine hK _ ?_;clear hK K)
    refine t_read rfl hS5 (fun w' h=>exec_load1 ⟨⟨_,Tryz.underlying37,rfl⟩⟩ rfl h) ?_
    iterate 2 (refine t_take rfl (fun K hK=> ?_);go_simp;refine hK _ ?_;clear hK K)
    have hR5:RdAt w5.drew ra rv da 0 0:=HR.out.below (Below.refl _ _).drew
    have hB5:Below (w.heap.size+1) w0 w5.drew:=HB5.out.drew
    generalize w5.drew=w5 at*
    refine t_two rfl rfl (fun K hK=> ?_) (fun K hK=> ?_)
    ·go_simp
     refine (get_any hR5 (Nat.zero_le _) 40 (by decide)).mono ?_
     rintro e w6 ⟨rfl,hR6,hm⟩
     have hS6:w6.cell? ⟨w3.heap.size,1,none⟩=some (.int .u64 (ct:Nat)):=cell_mod (S:=fun x=>x=ra) hS5 hm (fun e=>by have e:w3.heap.size=ra:=e;omega)
     have hB6:=hB5.trans (hm.below (by have:=hB5.size;rw [HZ0.out] at this;exact this) fun x hx e=>by omega)
     refine hK _ _ hS6 ?_
     clear hK K hm
     refine t_two rfl rfl (fun K hK=> ?_) (fun K hK=> ?_)
     ·go_simp
      refine (get_any hR6 (getA_le _ _ _ (Nat.zero_le _)) 24 (by decide)).mono ?_
      rintro e w7 ⟨rfl,hR7,hm⟩
      have hS7:w7.cell? ⟨w3.heap.size,1,none⟩=some (.int .u64 (ct:Nat)):=cell_mod (S:=fun x=>x=ra) hS6 hm (fun e=>by have e:w3.heap.size=ra:=e;omega)
      have hB7:=hB6.trans (hm.below (by have:=hB6.size;rw [HZ0.out] at this;exact this) fun x hx e=>by omega)
      refine hK _ _ hS7 ?_
      clear hK K hm
      refine t_take rfl (fun K hK=>⟨_,fun w'=>exec_buildA (cells:= #[.int .u64 (ct:Nat), .int .u64 ((getA da 0 0 40).1:Nat), .int .u64 ((getA da (getA da 0 0 40).2.1 (getA da 0 0 40).2.2 24).1:Nat)]) rfl (by kernel_rfl),?_⟩)
      go_simp
      refine hK _ ?_
      clear hK K
      refine t_show' rfl (fun K hK=> ?_)
      go_simp
      have hb:=(Below.refl w7.heap.size w7).alloc (Nat.le_refl _) (.cells #[.int .u64 0, .int .u64 0, .int .u64 0] 123)
      have hR8:=hR7.below hb
      have hA8:(w7.alloc (.cells #[.int .u64 0, .int .u64 0, .int .u64 0] 123)).heap[w7.heap.size]?=some (.cells #[.int .u64 0, .int .u64 0, .int .u64 0] 123 (0,0)):=heap_alloc_at
      have hS8:=(hb.cell (p:=⟨w3.heap.size,1,none⟩) (World.block_lt_of_cell? _ _ hS7)).trans hS7
      have hB8:=hB7.trans (hb.mono (by have:=hB7.size;rw [HZ0.out] at this;exact this))
      have hbz:w7.heap.size≠ra:=by have:=lt_of_block hR7.blk;omega
      have hb0:w.heap.size+1≤w7.heap.size:=by have:=hB7.size;rw [HZ0.out] at this;exact this
      have hbr: ∀r,rv.ownBlock=some r→¬ r=w7.heap.size:=fun r hr=>by have:=hR7.bs.lt hr;omega
      obtain ⟨bz,hbze⟩: ∃bz,w7.heap.size=bz:=⟨_,rfl⟩
      rw [hbze] at hA8 hbz hb0 hbr ⊢
      generalize w7.alloc (.cells #[.int .u64 0, .int .u64 0, .int .u64 0] 123)=w8 at*
      refine hK _ _ hS8 ?_
      clear hK K hb hbze
      obtain ⟨w9,hr9,hh9,hm9⟩:=exec_storeB (ρ:=fun _=>undef) (ty:=0) (pos:= "") (after:= #[]) (x:= .tmp 0) (y:= .tmp 0) (aggHd (ct:Nat) ((getA da 0 0 40).1:Nat) ((getA da (getA da 0 0 40).2.1 (getA da 0 0 40).2.2 24).1:Nat)) hA8 rfl (oneHd _ _ _)
      refine t_skip rfl (hr9 _ _ _ _ _ _ _ _ rfl rfl) ?_
      refine t_nil ?_
      have hR9:=hR8.mod hm9 (fun e=>hbz e.symm) hbr
      have hB9:=hB8.trans (hm9.below (by have:=hB8.size;rw [HZ0.out] at this;exact this) fun x hx e=>by omega)
      go_wp2
      go_meet
      case rel=>exact ⟨bz,rfl,hh9,hR9,hB9⟩
     ·go_simp
      have hb:=(Below.refl w6.heap.size w6).alloc (Nat.le_refl _) (.cells #[.int .u64 0, .int .u64 0, .int .u64 0] 123)
      have hR7:=hR6.below hb
      have hA7:(w6.alloc (.cells #[.int .u64 0, .int .u64 0, .int .u64 0] 123)).heap[w6.heap.size]?=some (.cells #[.int .u64 0, .int .u64 0, .int .u64 0] 123 (0,0)):=heap_alloc_at
      have hS7:=(hb.cell (p:=⟨w3.heap.size,1,none⟩) (World.block_lt_of_cell? _ _ hS6)).trans hS6
      have hB7:=hB6.trans (hb.mono (by have:=hB6.size;rw [HZ0.out] at this;exact this))
      have hbz:w6.heap.size≠ra:=by have:=lt_of_block hR6.blk;omega
      have hb0:w.heap.size+1≤w6.heap.size:=by have:=hB6.size;rw [HZ0.out] at this;exact this
      have hbr: ∀r,rv.ownBlock=some r→¬ r=w6.heap.size:=fun r hr=>by have:=hR6.bs.lt hr;omega
      obtain ⟨bz,hbze⟩: ∃bz,w6.heap.size=bz:=⟨_,rfl⟩
      rw [hbze] at hA7 hbz hb0 hbr ⊢
      generalize w6.alloc (.cells #[.int .u64 0, .int .u64 0, .int .u64 0] 123)=w7 at*
      refine hK _ _ hS7 ?_
      clear hK K hb hbze
      refine t_show' rfl (fun K hK=> ?_)
      go_simp
      refine (get_any hR7 (getA_le _ _ _ (Nat.zero_le _)) 24 (by decide)).mono ?_
      rintro e w8 ⟨rfl,hR8,hm⟩
      have hS8:w8.cell? ⟨w3.heap.size,1,none⟩=some (.int .u64 (ct:Nat)):=cell_mod (S:=fun x=>x=ra) hS7 hm (fun e=>by have e:w3.heap.size=ra:=e;omega)
      have hB8:=hB7.trans (hm.below (by have:=hB7.size;rw [HZ0.out] at this;exact this) fun x hx e=>by omega)
      have hA8:=hm.heap (S:=fun x=>x=ra) hA7 (fun e=>hbz e)
      refine hK _ _ hS8 ?_
      clear hK K hm
      refine t_take rfl (fun K hK=>⟨_,fun w'=>exec_buildA (cells:= #[.int .u64 (ct:Nat), .int .u64 ((getA da 0 0 40).1:Nat), .int .u64 ((getA da (getA da 0 0 40).2.1 (getA da 0 0 40).2.2 24).1:Nat)]) rfl (by kernel_rfl),?_⟩)
      go_simp
      refine hK _ ?_
      clear hK K
      obtain ⟨w9,hr9,hh9,hm9⟩:=exec_storeB (ρ:=fun _=>undef) (ty:=0) (pos:= "") (after:= #[]) (x:= .tmp 0) (y:= .tmp 0) (aggHd (ct:Nat) ((getA da 0 0 40).1:Nat) ((getA da (getA da 0 0 40).2.1 (getA da 0 0 40).2.2 24).1:Nat)) hA8 rfl (oneHd _ _ _)
      refine t_skip rfl (hr9 _ _ _ _ _ _ _ _ rfl rfl) ?_
      refine t_nil ?_
      have hR9:=hR8.mod hm9 (fun e=>hbz e.symm) hbr
      have hB9:=hB8.trans (hm9.below (by have:=hB8.size;rw [HZ0.out] at this;exact this) fun x hx e=>by omega)
      go_wp2
      go_meet
      case rel=>exact ⟨bz,rfl,hh9,hR9,hB9⟩
    ·go_simp
     have hb:=(Below.refl w5.heap.size w5).alloc (Nat.le_refl _) (.cells #[.int .u64 0, .int .u64 0, .int .u64 0] 123)
     have hR6:=hR5.below hb
     have hA6:(w5.alloc (.cells #[.int .u64 0, .int .u64 0, .int .u64 0] 123)).heap[w5.heap.size]?=some (.cells #[.int .u64 0, .int .u64 0, .int .u64 0] 123 (0,0)):=heap_alloc_at
     have hS6:=(hb.cell (p:=⟨w3.heap.size,1,none⟩) (World.block_lt_of_cell? _ _ hS5)).trans hS5
     have hB6:=hB5.trans (hb.mono (by have:=hB5.size;rw [HZ0.out] at this;exact this))
     have hbz:w5.heap.size≠ra:=by have:=lt_of_block hR5.blk;omega
     have hb0:w.heap.size+1≤w5.heap.size:=by have:=hB5.size;rw [HZ0.out] at this;exact this
     have hbr: ∀r,rv.ownBlock=some r→¬ r=w5.heap.size:=fun r hr=>by have:=hR5.bs.lt hr;omega
     obtain ⟨bz,hbze⟩: ∃bz,w5.heap.size=bz:=⟨_,rfl⟩
     rw [hbze] at hA6 hbz hb0 hbr ⊢
     generalize w5.alloc (.cells #[.int .u64 0, .int .u64 0, .int .u64 0] 123)=w6 at*
     refine hK _ _ hS6 ?_
     clear hK K hb hbze
     refine t_show' rfl (fun K hK=> ?_)
     go_simp
     refine (get_any hR6 (Nat.zero_le _) 40 (by decide)).mono ?_
     rintro e w7 ⟨rfl,hR7,hm⟩
     have hS7:w7.cell? ⟨w3.heap.size,1,none⟩=some (.int .u64 (ct:Nat)):=cell_mod (S:=fun x=>x=ra) hS6 hm (fun e=>by have e:w3.heap.size=ra:=e;omega)
     have hB7:=hB6.trans (hm.below (by have:=hB6.size;rw [HZ0.out] at this;exact this) fun x hx e=>by omega)
     have hA7:=hm.heap (S:=fun x=>x=ra) hA6 (fun e=>hbz e)
     refine hK _ _ hS7 ?_
     clear hK K hm
     refine t_show' rfl (fun K hK=> ?_)
     go_simp
     refine (get_any hR7 (getA_le _ _ _ (Nat.zero_le _)) 24 (by decide)).mono ?_
     rintro e w8 ⟨rfl,hR8,hm⟩
     have hS8:w8.cell? ⟨w3.heap.size,1,none⟩=some (.int .u64 (ct:Nat)):=cell_mod (S:=fun x=>x=ra) hS7 hm (fun e=>by have e:w3.heap.size=ra:=e;omega)
     have hB8:=hB7.trans (hm.below (by have:=hB7.size;rw [HZ0.out] at this;exact this) fun x hx e=>by omega)
     have hA8:=hm.heap (S:=fun x=>x=ra) hA7 (fun e=>hbz e)
     refine hK _ _ hS8 ?_
     clear hK K hm
     refine t_take rfl (fun K hK=>⟨_,fun w'=>exec_buildA (cells:= #[.int .u64 (ct:Nat), .int .u64 ((getA da 0 0 40).1:Nat), .int .u64 ((getA da (getA da 0 0 40).2.1 (getA da 0 0 40).2.2 24).1:Nat)]) rfl (by kernel_rfl),?_⟩)
     go_simp
     refine hK _ ?_
     clear hK K
     obtain ⟨w9,hr9,hh9,hm9⟩:=exec_storeB (ρ:=fun _=>undef) (ty:=0) (pos:= "") (after:= #[]) (x:= .tmp 0) (y:= .tmp 0) (aggHd (ct:Nat) ((getA da 0 0 40).1:Nat) ((getA da (getA da 0 0 40).2.1 (getA da 0 0 40).2.2 24).1:Nat)) hA8 rfl (oneHd _ _ _)
     refine t_skip rfl (hr9 _ _ _ _ _ _ _ _ rfl rfl) ?_
     refine t_nil ?_
     have hR9:=hR8.mod hm9 (fun e=>hbz e.symm) hbr
     have hB9:=hB8.trans (hm9.below (by have:=hB8.size;rw [HZ0.out] at this;exact this) fun x hx e=>by omega)
     go_wp2
     go_meet
     case rel=>exact ⟨bz,rfl,hh9,hR9,hB9⟩
   obtain ⟨bz,rfl,hZ,hR6,hB6⟩:=hcut
   have hend:=end_any hR6 (getA_le _ _ _ (getA_le _ _ _ (Nat.zero_le _)))
   have HZ:=Lib.hid hZ
   have HB6:=Lib.hid hB6
   have HBZ:Hid (bz<wc.heap.size):=Lib.hid (lt_of_block hZ)
   clear hZ hR6 hB6
   have hnum:(hdNums da).2.2=decide (endR da (getA da (getA da 0 0 40).2.1 (getA da 0 0 40).2.2 24).2.1 (getA da (getA da 0 0 40).2.1 (getA da 0 0 40).2.2 24).2.2=0):=rfl
   have hn1:(hdNums da).1=(getA da 0 0 40).1:=rfl
   have hn2:(hdNums da).2.1=(getA da (getA da 0 0 40).2.1 (getA da 0 0 40).2.2 24).1:=rfl
   rw [hn1,hn2] at HE2
   clear hn1 hn2
   generalize (getA da 0 0 40).1=n1 at*
   generalize (getA da (getA da 0 0 40).2.1 (getA da 0 0 40).2.2 24).1=n2 at*
   generalize endR da (getA da (getA da 0 0 40).2.1 (getA da 0 0 40).2.2 24).2.1 (getA da (getA da 0 0 40).2.1 (getA da 0 0 40).2.2 24).2.2=er at*
   have hz6: ∀w7:World,Below wc.heap.size wc w7→Below (w.heap.size+1) w0 w7:=fun w7 h=>HB6.out.trans (h.mono (by have:=HB6.out.size;rw [HZ0.out] at this;exact this))
   have HZ6:=Lib.hid hz6
   clear hz6
   by_cases her:er=0
   ·subst her
    have hT:(hdNums da).2.2=true:=by rw [hnum];rfl
    rw [if_pos hT] at HE2
    simp only [Int.ofNat_zero] at hend
    clear hnum hT
    go_wp2_with fail
    refine hend.mono ?_
    rintro e w7 ⟨rfl,hb7⟩
    have HB7:=Lib.hid (HZ6.out _ hb7)
    have HL:=Lib.hid (lies_of ((hb7.block _ HBZ.out).trans HZ.out))
    have hq:=(HB7.out.block w.heap.size (by omega)).trans HH0.out
    have HQ7:=Lib.hid hq
    clear hb7 hend hq
    go_wp2_with (first
     | ((with_reducible refine wpList_loadA (aggHd _ _ _) HL.out ?_ ?_);rfl;go_frame)
     | ((with_reducible refine wpList_storeB (aggHd (ct:Nat) (n1:Nat) (n2:Nat)) ?_ ?_ HQ7.out rfl (oneHd _ _ _) ?_);rfl;rfl;(intro w8 hh8 hm8;have HH8:=Lib.hid hh8;have HM8:=Lib.hid hm8;clear hh8 hm8);go_frame)
     | fail)
    refine bodyPost_ret (results_cellT rfl _ rfl (aggHd _ _ _) (lies_of HH8.out)) rfl ?_
    rw [HE2.out]
    exact ⟨rfl,HB0.out.trans ((HB7.out.mono (Nat.le_succ _)).trans (HM8.out.below (by have:=HB7.out.size;rw [HZ0.out] at this;omega) fun x hx e=>by omega))⟩
   ·have hT:¬ (hdNums da).2.2=true:=by rw [hnum];simp [her]
    rw [if_neg hT] at HE2
    have hne2:((er:Int) !=0)=true:=by rw [bne_iff_ne];omega
    clear hnum hT her
    go_wp2_with fail
    refine hend.mono ?_
    rintro e w7 ⟨rfl,hb7⟩
    have HB7:=Lib.hid (HZ6.out _ hb7)
    have hq:=(HB7.out.block w.heap.size (by omega)).trans HH0.out
    have HQ7:=Lib.hid hq
    clear hb7 hend hq
    go_wp2_with (first
     | ((with_reducible refine wpList_storeB (aggHd 0 0 0) ?_ ?_ HQ7.out rfl (oneHd _ _ _) ?_);rfl;rfl;(intro w8 hh8 hm8;have HH8:=Lib.hid hh8;have HM8:=Lib.hid hm8;clear hh8 hm8);go_frame)
     | fail)
    refine bodyPost_ret (results_cellT rfl _ rfl (aggHd 0 0 0) (lies_of HH8.out)) rfl ?_
    rw [HE2.out]
    exact ⟨rfl,HB0.out.trans ((HB7.out.mono (Nat.le_succ _)).trans (HM8.out.below (by have:=HB7.out.size;rw [HZ0.out] at this;omega) fun x hx e=>by omega))⟩
  ·have hN:headP ⟨ep,ct,fi,la,da⟩ i=none:=by
    unfold headP
    rw [if_neg (fun e=>hfl ⟨e.1,e.2.1,e.2.2.1⟩)]
   have HE2:=Lib.hid (HE.out.trans hN)
   have hpl:=fun w'=>hplace_any w' a ct (by omega) hql2
   have hne:fi=true→la=true→((((a+ct %2:Nat):Int)) !=(a:Int)+i)=true:=fun h1 h2=>by
    rw [bne_iff_ne]
    have:ct %2≠i:=fun e=>hfl ⟨h1,h2,e⟩
    omega
   clear hN hfl
   generalize ((a+ct %2:Nat):Int)=ai at*
   cases fi
   rotate_left
   cases la
   rotate_left
   have hne:=hne rfl rfl
   all_goals
    go_wp2_with (first
     | (go_at_call 167;refine (hpl _).mono ?_;rintro e w4 ⟨rfl,hw⟩;obtain rfl:=hw.symm;clear hw)
     | ((with_reducible refine wpList_storeB (aggHd 0 0 0) ?_ ?_ HQ.out rfl (oneHd _ _ _) ?_);rfl;rfl;(intro w8 hh8 hm8;have HH8:=Lib.hid hh8;have HM8:=Lib.hid hm8;clear hh8 hm8);go_frame)
     | fail)
    refine bodyPost_ret (results_cellT rfl _ rfl (aggHd 0 0 0) (lies_of HH8.out)) rfl ?_
    rw [HE2.out]
    exact ⟨rfl,HB0.out.trans ((HB4.out.mono (Nat.le_succ _)).trans (HM8.out.below (by have:=HB4.out.size;rw [HZ0.out] at this;omega) fun x hx e=>by omega))⟩
def accH (d:Dsk) (a:Nat):Nat→Option Hd
 | 0=>none
 | k+1=>newer (accH d a k) (hdB (d.get (a+k)) k)
theorem accH_2 (d:Dsk) (a:Nat):accH d a 2=d.head a:=by
 unfold Dsk.head
 simp only [accH,Nat.add_zero]
 cases hdB (d.get a) 0<;>rfl
theorem hdCs_lit (a b c:Nat):hdCs ⟨a,b,c⟩= #[.int .u64 (a:Nat), .int .u64 (b:Nat), .int .u64 (c:Nat)]:=rfl
def hloadV (o:Option Hd):Value:= .tuple #[.agg (hdCs (o.getD hd0)), .bool o.isSome, .int .i64 0]
set_option maxRecDepth 20000 in
set_option maxHeartbeats 4000000 in
theorem hload_any {w:World} {F:Nat→Prop} {p:Nat} {d:Dsk} (h:DAt w F p d) (a:Nat) (ha:a+1<d.L.length):
  Calls Tryz.prog 54 #[.pointer (some ⟨p,0,none⟩), .int .i64 a] w fun e w'=>e= .returned (hloadV (d.head a))∧Below w.heap.size w w':=by
 have hb0:Below w.heap.size w (w.alloc (.cells #[.int .u64 0, .int .u64 0, .int .u64 0] 123)):=(Below.refl _ _).alloc (Nat.le_refl _) _
 have hh0:(w.alloc (.cells #[.int .u64 0, .int .u64 0, .int .u64 0] 123)).heap[w.heap.size]?=some (.cells #[.int .u64 0, .int .u64 0, .int .u64 0] 123 (0,0)):=heap_alloc_at
 have hz0:(w.alloc (.cells #[.int .u64 0, .int .u64 0, .int .u64 0] 123)).heap.size=w.heap.size+1:=by simp
 have hwr:=hwrong_ok (h.below hb0) a ha
 have hb1:Below w.heap.size w ((w.alloc (.cells #[.int .u64 0, .int .u64 0, .int .u64 0] 123)).alloc (.cells #[.int .u64 0, .int .u64 0, .int .u64 0] 123)):=hb0.alloc (by rw [hz0];exact Nat.le_succ _) _
 have hh1:((w.alloc (.cells #[.int .u64 0, .int .u64 0, .int .u64 0] 123)).alloc (.cells #[.int .u64 0, .int .u64 0, .int .u64 0] 123)).heap[w.heap.size]?=some (.cells #[.int .u64 0, .int .u64 0, .int .u64 0] 123 (0,0)):=heap_alloc_of hh0
 have hh2:((w.alloc (.cells #[.int .u64 0, .int .u64 0, .int .u64 0] 123)).alloc (.cells #[.int .u64 0, .int .u64 0, .int .u64 0] 123)).heap[w.heap.size+1]?=some (.cells #[.int .u64 0, .int .u64 0, .int .u64 0] 123 (0,0)):=by
  have:=heap_alloc_at (w:=w.alloc (.cells #[.int .u64 0, .int .u64 0, .int .u64 0] 123)) (o:= .cells #[.int .u64 0, .int .u64 0, .int .u64 0] 123)
  rw [hz0] at this
  exact this
 have HD:=Lib.hid h
 have HB1:=Lib.hid hb1
 have HH1:=Lib.hid hh1
 have HH2:=Lib.hid hh2
 clear hb0 hh0 hz0 h hb1 hh1 hh2
 go_enter Tryz.func54,Tryz.ntmps54
 go_wp2_with (first
  | (go_at_call 115;refine hwr.mono ?_;rintro e w2 ⟨rfl,hw2⟩;obtain rfl:=hw2.symm;clear hw2)
  | fail)
 generalize (w.alloc (.cells #[.int .u64 0, .int .u64 0, .int .u64 0] 123)).alloc (.cells #[.int .u64 0, .int .u64 0, .int .u64 0] 123)=w1 at*
 clear hwr
 go_loopw [20,9] (fun iv fv wi=> ∃k:Nat,k≤2∧iv= .int .i64 k∧fv= .bool (accH d a k).isSome∧wi.heap[w.heap.size+1]?=some (.cells (hdCs ((accH d a k).getD hd0)) 123 (0,0))∧wi.heap[w.heap.size]?=some (.cells #[.int .u64 0, .int .u64 0, .int .u64 0] 123 (0,0))∧Below w.heap.size w wi) (fun iv _ _=>2-(intOf iv).toNat)
 case atStart=>exact ⟨0,by decide,rfl,rfl,HH2.out,HH1.out,HB1.out⟩
 case round=>
  obtain ⟨k,hk,rfl,rfl,hO,hZ,hb⟩:=hrel
  by_cases hk2:k<2
  ·have hk2':(k:Int)<2:=by omega
   have hsub:accH d a (k+1)=newer (accH d a k) (hdB (d.get (a+k)) k):=rfl
   have hrd:=hread_any (HD.out.below hb) a k (by omega) (by omega)
   have HSUB:=Lib.hid hsub
   have HO:=Lib.hid hO
   have HZ:=Lib.hid hZ
   have HB:=Lib.hid hb
   clear hsub hO hZ hb
   obtain ⟨o,ho⟩: ∃o,hdB (d.get (a+k)) k=o:=⟨_,rfl⟩
   rw [ho] at hrd HSUB
   clear ho
   go_wp2_with fail
   refine hrd.mono ?_
   rintro e w3 ⟨rfl,hb3⟩
   have HB3:=Lib.hid (HB.out.trans (hb3.mono HB.out.size))
   have hO3:=(hb3.block _ (lt_of_block HO.out)).trans HO.out
   have hZ3:=(hb3.block _ (lt_of_block HZ.out)).trans HZ.out
   clear hb3 hrd
   obtain ⟨A,hA⟩: ∃A,accH d a k=A:=⟨_,rfl⟩
   rw [hA] at hO3 HSUB ⊢
   clear hA HO HZ
   cases o with
   | none=>
    have hO4:=heap_alloc_of (o:= .cells #[.int .u64 0, .int .u64 0, .int .u64 0] 123) hO3
    have hZ4:=heap_alloc_of (o:= .cells #[.int .u64 0, .int .u64 0, .int .u64 0] 123) hZ3
    have hB4:Below w.heap.size w (w3.alloc (.cells #[.int .u64 0, .int .u64 0, .int .u64 0] 123)):=HB3.out.alloc HB3.out.size _
    have HS:Hid (accH d a (k+1)=A):=Lib.hid HSUB.out
    have HO4:=Lib.hid hO4
    have HZ4:=Lib.hid hZ4
    have HB4:=Lib.hid hB4
    clear hO3 hZ3 hO4 hZ4 hB4 HSUB
    simp only [hreadV,Option.getD_none,Option.isSome_none,hd0,hdCs_lit,Int.ofNat_zero]
    go_wp2
    go_roundw
    case rel=>exact ⟨k+1,by omega,by go_num,by rw [HS.out],by rw [HS.out];exact HO4.out,HZ4.out,HB4.out⟩
    case measure=>simp [intOf];omega
   | some y=>
    obtain ⟨g,t,f⟩:=y
    have hO4:=heap_alloc_of (o:= .cells #[.int .u64 (g:Nat), .int .u64 (t:Nat), .int .u64 (f:Nat)] 123) hO3
    have hZ4:=heap_alloc_of (o:= .cells #[.int .u64 (g:Nat), .int .u64 (t:Nat), .int .u64 (f:Nat)] 123) hZ3
    have hB4:Below w.heap.size w (w3.alloc (.cells #[.int .u64 (g:Nat), .int .u64 (t:Nat), .int .u64 (f:Nat)] 123)):=HB3.out.alloc HB3.out.size _
    have HO4:=Lib.hid hO4
    have HZ4:=Lib.hid hZ4
    have HB4:=Lib.hid hB4
    clear hO3 hZ3 hO4 hZ4 hB4
    simp only [hreadV,Option.getD_some,Option.isSome_some,hdCs_lit]
    have fin: ∀w5:World,w5.heap[w.heap.size+1]?=some (.cells #[.int .u64 (g:Nat), .int .u64 (t:Nat), .int .u64 (f:Nat)] 123 (0,0))→Mod (fun x=>x=w.heap.size+1) (w3.alloc (.cells #[.int .u64 (g:Nat), .int .u64 (t:Nat), .int .u64 (f:Nat)] 123)) w5→
      w5.heap[w.heap.size]?=some (.cells #[.int .u64 0, .int .u64 0, .int .u64 0] 123 (0,0))∧Below w.heap.size w w5:=fun w5 _ hm=>
     ⟨(hm.block _ (lt_of_block HZ4.out) (fun e=>by have e:w.heap.size=w.heap.size+1:=e;omega)).trans HZ4.out,HB4.out.trans (hm.below HB4.out.size fun x hx e=>by omega)⟩
    have HF:=Lib.hid fin
    clear fin
    cases A with
    | none=>
     have HS:Hid (accH d a (k+1)=some ⟨g,t,f⟩):=Lib.hid HSUB.out
     clear HSUB
     simp only [Option.isSome_none]
     go_wp2_with (first
      | ((with_reducible refine wpList_loadA (aggHd (g:Nat) (t:Nat) (f:Nat)) (lies_of heap_alloc_at) ?_ ?_);rfl;go_frame)
      | ((with_reducible refine wpList_storeB (aggHd (g:Nat) (t:Nat) (f:Nat)) ?_ ?_ HO4.out rfl (oneHd _ _ _) ?_);rfl;rfl;(intro w5 hh5 hm5;have HH5:=Lib.hid hh5;have HM5:=Lib.hid hm5;clear hh5 hm5);go_frame)
      | fail)
     have hf:=HF.out _ HH5.out HM5.out
     go_roundw
     case rel=>exact ⟨k+1,by omega,by go_num,by rw [HS.out];rfl,by rw [HS.out];exact HH5.out,hf.1,hf.2⟩
     case measure=>simp [intOf];omega
    | some x=>
     obtain ⟨g0,t0,f0⟩:=x
     simp only [Option.isSome_some,Option.getD_some,hdCs_lit] at HO4 ⊢
     have ho0:=cell_of (o:=0) HO4.out rfl
     by_cases hg:g0<g
     ·have HS:Hid (accH d a (k+1)=some ⟨g,t,f⟩):=Lib.hid (HSUB.out.trans (by simp [newer,hg]))
      have hgd:decide ((g0:Int)<(g:Int))=true:=by simp;omega
      clear HSUB
      go_wp2_with (first
       | ((with_reducible refine wpList_loadA (aggHd (g:Nat) (t:Nat) (f:Nat)) (lies_of heap_alloc_at) ?_ ?_);rfl;go_frame)
       | ((with_reducible refine wpList_storeB (aggHd (g:Nat) (t:Nat) (f:Nat)) ?_ ?_ HO4.out rfl (oneHd _ _ _) ?_);rfl;rfl;(intro w5 hh5 hm5;have HH5:=Lib.hid hh5;have HM5:=Lib.hid hm5;clear hh5 hm5);go_frame)
       | fail)
      have hf:=HF.out _ HH5.out HM5.out
      go_roundw
      case rel=>exact ⟨k+1,by omega,by go_num,by rw [HS.out];rfl,by rw [HS.out];exact HH5.out,hf.1,hf.2⟩
      case measure=>simp [intOf];omega
     ·have HS:Hid (accH d a (k+1)=some ⟨g0,t0,f0⟩):=Lib.hid (HSUB.out.trans (by simp [newer,hg]))
      have hgd:decide ((g0:Int)<(g:Int))=false:=by simp;omega
      clear HSUB
      go_wp2
      go_roundw
      case rel=>exact ⟨k+1,by omega,by go_num,by rw [HS.out];rfl,by rw [HS.out];exact HO4.out,HZ4.out,HB4.out⟩
      case measure=>simp [intOf];omega
  ·obtain rfl:k=2:=by omega
   rw [accH_2] at hO ⊢
   have HV:Hid (hloadV (d.head a)= .tuple #[.agg (hdCs ((d.head a).getD hd0)), .bool (d.head a).isSome, .int .i64 0]):=Lib.hid rfl
   obtain ⟨X,hX⟩: ∃X,(d.head a).getD hd0=X:=⟨_,rfl⟩
   obtain ⟨s,hs⟩: ∃s,(d.head a).isSome=s:=⟨_,rfl⟩
   rw [hX,hs] at HV
   rw [hX] at hO
   rw [hs]
   clear hX hs
   obtain ⟨g,t,f⟩:=X
   simp only [hdCs_lit] at HV hO
   have HO:=Lib.hid hO
   have HZ:=Lib.hid hZ
   have HB:=Lib.hid hb
   have HL:=Lib.hid (lies_of hO)
   clear hO hZ hb
   go_wp2_with (first
    | ((with_reducible refine wpList_loadA (aggHd (g:Nat) (t:Nat) (f:Nat)) HL.out ?_ ?_);rfl;go_frame)
    | ((with_reducible refine wpList_storeB (aggHd (g:Nat) (t:Nat) (f:Nat)) ?_ ?_ HZ.out rfl (oneHd _ _ _) ?_);rfl;rfl;(intro w5 hh5 hm5;have HH5:=Lib.hid hh5;have HM5:=Lib.hid hm5;clear hh5 hm5);go_frame)
    | fail)
   rw [HV.out]
   refine bodyPost_ret (results_cell3 rfl _ rfl (aggHd _ _ _) (lies_of HH5.out)) rfl ?_
   exact ⟨rfl,HB.out.trans (HM5.out.below HB.out.size fun x hx e=>by omega)⟩
end Go.Proofs.YtjdbbnhnbdocbaaGreat
