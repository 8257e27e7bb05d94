import Derived.Test.YtjdbbnhnbdocbaaGreatMgGon18
import Derived.Test.YtjdbbnhnbdocbaaGreatMgGon16
namespace Go.Proofs.YtjdbbnhnbdocbaaGreat
open Go.RowKit Go.Tn Go.Tn.Bt Go.Tn.Lp Go.Tn.Dk
theorem onePt (a:Int) (ao:Option Addr) (n c:Nat):(#[.int .i64 a, .slice ao n c]:Array Value).all (·.oneCell')=true:=by simp [Value.oneCell']
def DecR (B:Nat) (w':World) (r:Option (List Pt)) (e:Ending):Prop:=match r with
 | some ps=> ∃v',e= .returned (.tuple #[v', .bool true])∧PtsO B w' v' ps
 | none=> ∃(a:Option Addr) (n c:Nat),e= .returned (.tuple #[.slice a n c, .bool false])
theorem decGo_none {B:List Nat} {a e k:Nat} (h:decGo B a e k=none): ∀j,decGo B a e (k+j)=none
 | 0=>h
 | j+1=>by rw [←Nat.add_assoc];simp only [decGo,decGo_none h j]
theorem set_at {L:List Nat} {j m y:Nat} (hL:L.length=j):(L++List.replicate (m+1) 0).set j y=(L++ [y])++List.replicate m 0:=by
 subst hL
 rw [List.set_append_right _ _ (Nat.le_refl _),Nat.sub_self,List.replicate_succ,List.set_cons_zero]
 simp
set_option maxRecDepth 20000 in
set_option maxHeartbeats 8000000 in
theorem decode_any (w:World) (v:Value) (B:List Nat) (h:LSl en8 1 w v B) (hlt: ∀x∈B,x<256) (hl:B.length≤50000) (homes:Nat) (hh:homes≤100000):
  Calls Tryz.prog 119 #[v, .int .i64 homes] w fun e w'=>Below w.heap.size w w'∧DecR w.heap.size w' (decB B homes) e:=by
 have hop:=ropen_any w v B h hlt hl
 obtain ⟨ao,cap,rfl, -⟩:=h
 have hdB:decB B homes=match decGo B (getA B 0 0 8).2.1 (getA B 0 0 8).2.2 (getA B 0 0 8).1 with
  | none=>none
  | some (l,a,e)=>if endR B a e=0∧transB l homes=true then some l else none:=rfl
 have HDB:=Lib.hid hdB
 generalize decB B homes=R at*
 clear hdB hlt hl
 have hh63:(homes:Int)≤100000:=by omega
 go_enter Tryz.func119,Tryz.ntmps119
 go_wp2_with fail
 refine hop.mono ?_
 rintro e w2 ⟨ra,rv,rfl,hR2,hra,hrv,hb2⟩
 have hget:=get_any hR2 (Nat.zero_le _) 8 (by decide)
 have HB2:=Lib.hid hb2
 have HRV:=Lib.hid hrv
 have hra2:ra<w2.heap.size:=lt_of_block hR2.blk
 have hA0:=getA_le B 0 8 (Nat.zero_le (8*B.length))
 have hn8:(getA B 0 0 8).1<256:=Nat.lt_of_lt_of_le (getA_lt B 0 0 8) (by decide)
 generalize (getA B 0 0 8).1=n at*
 generalize (getA B 0 0 8).2.1=A0 at*
 generalize (getA B 0 0 8).2.2=E0 at*
 clear hop hR2 hrv hb2
 go_wp2_with fail
 refine hget.mono ?_
 rintro e w3 ⟨rfl,hR3,hm3⟩
 have hb3:Below w.heap.size w w3:=HB2.out.trans (hm3.below HB2.out.size fun x hx e=>by omega)
 have hw23:w2.heap.size≤w3.heap.size:=hm3.size
 have HR3:=Lib.hid hR3
 have HB3:=Lib.hid hb3
 have hrvl: ∀r,rv.ownBlock=some r→r<w3.heap.size:=fun r hr=>hR3.bs.lt hr
 have HRVL3:=Lib.hid hrvl
 clear hget hR3 hm3 hb3 hrvl
 have hn63:(n:Int)<256:=by omega
 go_wp2_with fail
 go_loopw [8,16] (fun ov iv wi=> ∃k:Nat,k≤n∧iv= .int .u64 k∧Below w.heap.size w wi∧w3.heap.size≤wi.heap.size∧ ∃l a e,decGo B A0 E0 k=some (l,a,e)∧RdAt wi ra rv B a e∧ ∃xs:List (Pt×Sv),xs.map (·.1)=l∧LOut enPt 2 187 w3.heap.size wi ov xs∧DatG w3.heap.size wi ov xs) (fun _ iv _=>n-(intOf iv).toNat)
 case atStart=>exact ⟨0,Nat.zero_le _,rfl,HB3.out,Nat.le_refl _, [],A0,E0,rfl,HR3.out, [],rfl,LOut.nil (Nat.le_refl _),fun x hx=>by cases hx⟩
 case round=>
  obtain ⟨k,hk,rfl,hb,hwi,l,a,er,hdec,hR,xs,hxs,hO,hD⟩:=hrel
  obtain ⟨hale,hll,hlq⟩:=decGo_le B E0 hA0 k l a er hdec
  by_cases hkl:k<n
  ·have hkl':(k:Int)<(n:Int):=by omega
   have hrvl: ∀r,rv.ownBlock=some r→r<wr.heap.size:=fun r hr=>Nat.lt_of_lt_of_le (HRVL3.out r hr) hwi
   have hx12:(getA B a er 12).1<4096:=Nat.lt_of_lt_of_le (getA_lt B a er 12) (by decide)
   have hdn:decGo B A0 E0 (k+1)=if (getPut B a er).2.2≠0 then none else some (l++ [(getPut B a er).1],(getPut B a er).2):=by simp only [decGo,hdec]
   have hgp:getPut B a er=(((((getA B a er 12).1:Nat):Int),(get8s B (getA B a er 12).2.1 (getA B a er 12).2.2 128).1),(get8s B (getA B a er 12).2.1 (getA B a er 12).2.2 128).2):=rfl
   rw [hgp] at hdn
   have hale1:=getA_le B er 12 hale
   have HDN:=Lib.hid hdn
   have HDEC:=Lib.hid hdec
   have HXS:=Lib.hid hxs
   have HO:=Lib.hid hO
   have HD:=Lib.hid hD
   have HB:=Lib.hid hb
   have HLQ:=Lib.hid hlq
   clear hdec hdn hgp hxs hO hD hb hlq
   obtain ⟨x12,hx12e⟩: ∃x,(getA B a er 12).1=x:=⟨_,rfl⟩
   obtain ⟨a12,ha12e⟩: ∃x,(getA B a er 12).2.1=x:=⟨_,rfl⟩
   obtain ⟨e12,he12e⟩: ∃x,(getA B a er 12).2.2=x:=⟨_,rfl⟩
   have hg12:getA B a er 12=(x12,a12,e12):=by rw [←hx12e, ←ha12e, ←he12e]
   rw [hx12e] at hx12 HDN
   rw [ha12e] at hale1 HDN
   rw [he12e] at HDN
   have get_any:=fun (w':World) (h:RdAt w' ra rv B a er)=>(by have:=get_any h hale 12 (by decide);rw [hg12] at this;exact this:Calls Tryz.prog 63 #[.pointer (some ⟨ra,0,none⟩), .int .i64 12] w' fun e w''=>e= .returned (.int .u64 (x12:Nat))∧RdAt w'' ra rv B a12 e12∧Mod (fun x=>x=ra) w' w'')
   have HGET:=Lib.hid get_any
   clear get_any hx12e ha12e he12e hg12
   have hx63:(x12:Int)<4096:=by omega
   have HU:Hid (IntKind.i64.wrap ((x12:Nat):Int)=((x12:Nat):Int)):=Lib.hid (IntWalk.i64_in _ (by omega))
   go_upto_region 6 with fail
   go_cut [9] (fun s wx=> ∃bz md,s= .pointer (some ⟨bz,0,none⟩)∧wx.heap[bz]?=some (.cells #[.int .i64 (x12:Nat), .slice (some ⟨md,0,none⟩) 128 128] 187 (0,0))∧Bk wx md (List.replicate 128 0)∧RdAt wx ra rv B a12 e12∧Mod (fun x=>x=ra) wr wx∧bz≠md∧wr.heap.size≤bz∧wr.heap.size≤md)
   case first=>
    refine wp_region_z (fun _=>True) [(0,1),(1,2),(2,1),(3,2),(4,1),(5,2),(6,3)] (.one 0 1 (.three 1 3 5 (.one 2 1 (.two 3 5 (.one 4 1 (.one 5 2 (.one 6 3 .nil))) (.one 3 2 (.one 4 1 (.one 6 3 .nil))))) (.two 1 5 (.one 2 1 (.one 4 1 (.one 5 2 (.one 6 3 .nil)))) (.one 1 2 (.one 2 1 (.one 4 1 (.one 6 3 .nil))))) (.two 1 3 (.one 2 1 (.one 3 2 (.one 4 1 (.one 6 3 .nil)))) (.one 1 2 (.one 2 1 (.one 4 1 (.one 6 3 .nil))))))) (by kernel_rfl) (by kernel_rfl) (by intro d v c a w h;cases d<;>exact h) ?_
    iterate 1 (refine z_take rfl (fun K hK=> ?_);go_simp;refine hK _ ?_;clear hK K)
    have hR5:RdAt wr.drew ra rv B a er:=hR.below (Below.refl _ _).drew
    have hM5:Mod (fun x=>x=ra) wr wr.drew:=(Mod.refl _ _).drew
    have hw5:wr.heap.size=wr.drew.heap.size:=rfl
    clear hR
    generalize wr.drew=w5 at*
    refine z_three rfl rfl rfl (fun K hK=> ?_) (fun K hK=> ?_) (fun K hK=> ?_)
    ·go_simp
     refine (HGET.out _ hR5).mono ?_
     rintro e w6 ⟨rfl,hR6,hm⟩
     have hM6:Mod (fun x=>x=ra) wr w6:=hM5.trans hm (fun _ h=>h) fun _ _ h=>h
     refine hK _ _ trivial ?_
     clear hK K hm
     iterate 1 (refine z_take rfl (fun K hK=> ?_);go_simp;refine hK _ ?_;clear hK K)
     rw [HU.out]
     refine z_two rfl rfl (fun K hK=> ?_) (fun K hK=> ?_)
     ·obtain ⟨w7,hmk,hB7,hb⟩:=make8 w6 128 (by decide)
      refine wp_of_run (hmk _ _ _ _ _ _ _ _ rfl rfl) ?_
      go_frame
      have hR7:=hR6.below hb
      have hM7:Mod (fun x=>x=ra) wr w7:=hM6.trans (Mod.of_below hb) (fun _ h=>h) fun x hx h=>absurd h (Nat.not_le.2 (Nat.lt_of_lt_of_le hx hM6.size))
      have hmd:w6.heap.size≠ra:=by have:=lt_of_block hR6.blk;omega
      have hm0:wr.heap.size≤w6.heap.size:=hM6.size
      obtain ⟨md,hmde⟩: ∃md,w6.heap.size=md:=⟨_,rfl⟩
      rw [hmde] at hB7 hmd hm0 ⊢
      refine hK _ _ trivial ?_
      clear hK K hb hmk hmde
      refine z_take rfl (fun K hK=>⟨_,fun w'=>exec_buildA (cells:= #[.int .i64 (x12:Nat), .slice (some ⟨md,0,none⟩) 128 128]) rfl (by kernel_rfl),?_⟩)
      go_simp
      refine hK _ ?_
      clear hK K
      refine z_show' rfl (fun K hK=> ?_)
      go_simp
      have hb:=(Below.refl w7.heap.size w7).alloc (Nat.le_refl _) (.cells #[.int .i64 0, .slice none 0 0] 187)
      have hR8:=hR7.below hb
      have hM8:=hM7.alloc (.cells #[.int .i64 0, .slice none 0 0] 187)
      have hA8:(w7.alloc (.cells #[.int .i64 0, .slice none 0 0] 187)).heap[w7.heap.size]?=some (.cells #[.int .i64 0, .slice none 0 0] 187 (0,0)):=heap_alloc_at
      have hB8:Bk (w7.alloc (.cells #[.int .i64 0, .slice none 0 0] 187)) md (List.replicate 128 0):=Bk.below hB7 hb
      have hbm:w7.heap.size≠md:=by have:=hB7.lt;omega
      have hbz:w7.heap.size≠ra:=by have:=lt_of_block hR7.blk;omega
      have hz0:wr.heap.size≤w7.heap.size:=hM7.size
      obtain ⟨bz,hbze⟩: ∃bz,w7.heap.size=bz:=⟨_,rfl⟩
      rw [hbze] at hA8 hbz hz0 hbm ⊢
      generalize w7.alloc (.cells #[.int .i64 0, .slice none 0 0] 187)=w8 at*
      refine hK _ _ trivial ?_
      clear hK K hb hbze
      obtain ⟨w9,hr9,hh9,hm9⟩:=exec_storeB (P:=Tryz.prog) (ρ:=fun _=>undef) (ty:=0) (pos:= "") (after:= #[]) (x:= .tmp 0) (y:= .tmp 0) (aggPt (x12:Nat) (.slice (some ⟨md,0,none⟩) 128 128)) hA8 rfl (onePt _ _ _ _)
      refine z_skip rfl (hr9 _ _ _ _ _ _ _ _ rfl rfl) ?_
      refine z_nil ?_
      have hR9:=hR8.mod hm9 (fun e=>hbz e.symm) (fun r hr e=>by have:=hrvl r hr;have e:r=bz:=e;omega)
      have hM9:Mod (fun x=>x=ra) wr w9:=hM8.trans hm9 (fun _ h=>h) fun x hx h=>absurd h (by have:=hz0;omega)
      have hB9:Bk w9 md (List.replicate 128 0):=hm9.heap (S:=fun x=>x=bz) hB8 (fun e=>hbm e.symm)
      go_wp2
      go_meet
      case rel=>exact ⟨bz,md,rfl,hh9,hB9,hR9,hM9,hbm,hz0,hm0⟩
     ·go_simp
      have hb:=(Below.refl w6.heap.size w6).alloc (Nat.le_refl _) (.cells #[.int .i64 0, .slice none 0 0] 187)
      have hR7:=hR6.below hb
      have hM7:=hM6.alloc (.cells #[.int .i64 0, .slice none 0 0] 187)
      have hA7:(w6.alloc (.cells #[.int .i64 0, .slice none 0 0] 187)).heap[w6.heap.size]?=some (.cells #[.int .i64 0, .slice none 0 0] 187 (0,0)):=heap_alloc_at
      have hbz:w6.heap.size≠ra:=by have:=lt_of_block hR6.blk;omega
      have hz0:wr.heap.size≤w6.heap.size:=hM6.size
      obtain ⟨bz,hbze⟩: ∃bz,w6.heap.size=bz:=⟨_,rfl⟩
      rw [hbze] at hA7 hbz hz0 ⊢
      generalize w6.alloc (.cells #[.int .i64 0, .slice none 0 0] 187)=w7 at*
      refine hK _ _ trivial ?_
      clear hK K hb hbze
      refine z_show' rfl (fun K hK=> ?_)
      obtain ⟨w8,hmk,hB8,hb⟩:=make8 w7 128 (by decide)
      refine wp_of_run (hmk _ _ _ _ _ _ _ _ rfl rfl) ?_
      go_frame
      have hR8:=hR7.below hb
      have hM8:Mod (fun x=>x=ra) wr w8:=hM7.trans (Mod.of_below hb) (fun _ h=>h) fun x hx h=>absurd h (Nat.not_le.2 (Nat.lt_of_lt_of_le hx hM7.size))
      have hA8:=(hb.block _ (lt_of_block hA7)).trans hA7
      have hbm:bz≠w7.heap.size:=by have:=lt_of_block hA7;omega
      have hmd:w7.heap.size≠ra:=by have:=lt_of_block hR7.blk;omega
      have hm0:wr.heap.size≤w7.heap.size:=hM7.size
      obtain ⟨md,hmde⟩: ∃md,w7.heap.size=md:=⟨_,rfl⟩
      rw [hmde] at hB8 hmd hm0 hbm ⊢
      refine hK _ _ trivial ?_
      clear hK K hb hmk hmde
      refine z_take rfl (fun K hK=>⟨_,fun w'=>exec_buildA (cells:= #[.int .i64 (x12:Nat), .slice (some ⟨md,0,none⟩) 128 128]) rfl (by kernel_rfl),?_⟩)
      go_simp
      refine hK _ ?_
      clear hK K
      obtain ⟨w9,hr9,hh9,hm9⟩:=exec_storeB (P:=Tryz.prog) (ρ:=fun _=>undef) (ty:=0) (pos:= "") (after:= #[]) (x:= .tmp 0) (y:= .tmp 0) (aggPt (x12:Nat) (.slice (some ⟨md,0,none⟩) 128 128)) hA8 rfl (onePt _ _ _ _)
      refine z_skip rfl (hr9 _ _ _ _ _ _ _ _ rfl rfl) ?_
      refine z_nil ?_
      have hR9:=hR8.mod hm9 (fun e=>hbz e.symm) (fun r hr e=>by have:=hrvl r hr;have e:r=bz:=e;omega)
      have hM9:Mod (fun x=>x=ra) wr w9:=hM8.trans hm9 (fun _ h=>h) fun x hx h=>absurd h (by have:=hz0;omega)
      have hB9:Bk w9 md (List.replicate 128 0):=hm9.heap (S:=fun x=>x=bz) hB8 (fun e=>hbm e.symm)
      go_wp2
      go_meet
      case rel=>exact ⟨bz,md,rfl,hh9,hB9,hR9,hM9,hbm,hz0,hm0⟩
    ·obtain ⟨w6,hmk,hB6,hb⟩:=make8 w5 128 (by decide)
     refine wp_of_run (hmk _ _ _ _ _ _ _ _ rfl rfl) ?_
     go_frame
     have hR6:=hR5.below hb
     have hM6:Mod (fun x=>x=ra) wr w6:=hM5.trans (Mod.of_below hb) (fun _ h=>h) fun x hx h=>absurd h (Nat.not_le.2 (Nat.lt_of_lt_of_le hx hM5.size))
     have hmd:w5.heap.size≠ra:=by have:=lt_of_block hR5.blk;omega
     have hm0:wr.heap.size≤w5.heap.size:=hM5.size
     obtain ⟨md,hmde⟩: ∃md,w5.heap.size=md:=⟨_,rfl⟩
     rw [hmde] at hB6 hmd hm0 ⊢
     refine hK _ _ trivial ?_
     clear hK K hb hmk hmde
     refine z_two rfl rfl (fun K hK=> ?_) (fun K hK=> ?_)
     ·go_simp
      refine (HGET.out _ hR6).mono ?_
      rintro e w7 ⟨rfl,hR7,hm⟩
      have hM7:Mod (fun x=>x=ra) wr w7:=hM6.trans hm (fun _ h=>h) fun _ _ h=>h
      have hB7:Bk w7 md (List.replicate 128 0):=hm.heap (S:=fun x=>x=ra) hB6 (fun e=>hmd e)
      refine hK _ _ trivial ?_
      clear hK K hm
      iterate 1 (refine z_take rfl (fun K hK=> ?_);go_simp;refine hK _ ?_;clear hK K)
      rw [HU.out]
      refine z_take rfl (fun K hK=>⟨_,fun w'=>exec_buildA (cells:= #[.int .i64 (x12:Nat), .slice (some ⟨md,0,none⟩) 128 128]) rfl (by kernel_rfl),?_⟩)
      go_simp
      refine hK _ ?_
      clear hK K
      refine z_show' rfl (fun K hK=> ?_)
      go_simp
      have hb:=(Below.refl w7.heap.size w7).alloc (Nat.le_refl _) (.cells #[.int .i64 0, .slice none 0 0] 187)
      have hR8:=hR7.below hb
      have hM8:=hM7.alloc (.cells #[.int .i64 0, .slice none 0 0] 187)
      have hA8:(w7.alloc (.cells #[.int .i64 0, .slice none 0 0] 187)).heap[w7.heap.size]?=some (.cells #[.int .i64 0, .slice none 0 0] 187 (0,0)):=heap_alloc_at
      have hB8:Bk (w7.alloc (.cells #[.int .i64 0, .slice none 0 0] 187)) md (List.replicate 128 0):=Bk.below hB7 hb
      have hbm:w7.heap.size≠md:=by have:=hB7.lt;omega
      have hbz:w7.heap.size≠ra:=by have:=lt_of_block hR7.blk;omega
      have hz0:wr.heap.size≤w7.heap.size:=hM7.size
      obtain ⟨bz,hbze⟩: ∃bz,w7.heap.size=bz:=⟨_,rfl⟩
      rw [hbze] at hA8 hbz hz0 hbm ⊢
      generalize w7.alloc (.cells #[.int .i64 0, .slice none 0 0] 187)=w8 at*
      refine hK _ _ trivial ?_
      clear hK K hb hbze
      obtain ⟨w9,hr9,hh9,hm9⟩:=exec_storeB (P:=Tryz.prog) (ρ:=fun _=>undef) (ty:=0) (pos:= "") (after:= #[]) (x:= .tmp 0) (y:= .tmp 0) (aggPt (x12:Nat) (.slice (some ⟨md,0,none⟩) 128 128)) hA8 rfl (onePt _ _ _ _)
      refine z_skip rfl (hr9 _ _ _ _ _ _ _ _ rfl rfl) ?_
      refine z_nil ?_
      have hR9:=hR8.mod hm9 (fun e=>hbz e.symm) (fun r hr e=>by have:=hrvl r hr;have e:r=bz:=e;omega)
      have hM9:Mod (fun x=>x=ra) wr w9:=hM8.trans hm9 (fun _ h=>h) fun x hx h=>absurd h (by have:=hz0;omega)
      have hB9:Bk w9 md (List.replicate 128 0):=hm9.heap (S:=fun x=>x=bz) hB8 (fun e=>hbm e.symm)
      go_wp2
      go_meet
      case rel=>exact ⟨bz,md,rfl,hh9,hB9,hR9,hM9,hbm,hz0,hm0⟩
     ·go_simp
      have hb:=(Below.refl w6.heap.size w6).alloc (Nat.le_refl _) (.cells #[.int .i64 0, .slice none 0 0] 187)
      have hR7:=hR6.below hb
      have hM7:=hM6.alloc (.cells #[.int .i64 0, .slice none 0 0] 187)
      have hA7:(w6.alloc (.cells #[.int .i64 0, .slice none 0 0] 187)).heap[w6.heap.size]?=some (.cells #[.int .i64 0, .slice none 0 0] 187 (0,0)):=heap_alloc_at
      have hB7:Bk (w6.alloc (.cells #[.int .i64 0, .slice none 0 0] 187)) md (List.replicate 128 0):=Bk.below hB6 hb
      have hbm:w6.heap.size≠md:=by have:=hB6.lt;omega
      have hbz:w6.heap.size≠ra:=by have:=lt_of_block hR6.blk;omega
      have hz0:wr.heap.size≤w6.heap.size:=hM6.size
      obtain ⟨bz,hbze⟩: ∃bz,w6.heap.size=bz:=⟨_,rfl⟩
      rw [hbze] at hA7 hbz hz0 hbm ⊢
      generalize w6.alloc (.cells #[.int .i64 0, .slice none 0 0] 187)=w7 at*
      refine hK _ _ trivial ?_
      clear hK K hb hbze
      refine z_show' rfl (fun K hK=> ?_)
      go_simp
      refine (HGET.out _ hR7).mono ?_
      rintro e w8 ⟨rfl,hR8,hm⟩
      have hM8:Mod (fun x=>x=ra) wr w8:=hM7.trans hm (fun _ h=>h) fun _ _ h=>h
      have hA8:=hm.heap (S:=fun x=>x=ra) hA7 (fun e=>hbz e)
      have hB8:Bk w8 md (List.replicate 128 0):=hm.heap (S:=fun x=>x=ra) hB7 (fun e=>hmd e)
      refine hK _ _ trivial ?_
      clear hK K hm
      iterate 1 (refine z_take rfl (fun K hK=> ?_);go_simp;refine hK _ ?_;clear hK K)
      rw [HU.out]
      refine z_take rfl (fun K hK=>⟨_,fun w'=>exec_buildA (cells:= #[.int .i64 (x12:Nat), .slice (some ⟨md,0,none⟩) 128 128]) rfl (by kernel_rfl),?_⟩)
      go_simp
      refine hK _ ?_
      clear hK K
      obtain ⟨w9,hr9,hh9,hm9⟩:=exec_storeB (P:=Tryz.prog) (ρ:=fun _=>undef) (ty:=0) (pos:= "") (after:= #[]) (x:= .tmp 0) (y:= .tmp 0) (aggPt (x12:Nat) (.slice (some ⟨md,0,none⟩) 128 128)) hA8 rfl (onePt _ _ _ _)
      refine z_skip rfl (hr9 _ _ _ _ _ _ _ _ rfl rfl) ?_
      refine z_nil ?_
      have hR9:=hR8.mod hm9 (fun e=>hbz e.symm) (fun r hr e=>by have:=hrvl r hr;have e:r=bz:=e;omega)
      have hM9:Mod (fun x=>x=ra) wr w9:=hM8.trans hm9 (fun _ h=>h) fun x hx h=>absurd h (by have:=hz0;omega)
      have hB9:Bk w9 md (List.replicate 128 0):=hm9.heap (S:=fun x=>x=bz) hB8 (fun e=>hbm e.symm)
      go_wp2
      go_meet
      case rel=>exact ⟨bz,md,rfl,hh9,hB9,hR9,hM9,hbm,hz0,hm0⟩
    ·go_simp
     have hb:=(Below.refl w5.heap.size w5).alloc (Nat.le_refl _) (.cells #[.int .i64 0, .slice none 0 0] 187)
     have hR6:=hR5.below hb
     have hM6:=hM5.alloc (.cells #[.int .i64 0, .slice none 0 0] 187)
     have hA6:(w5.alloc (.cells #[.int .i64 0, .slice none 0 0] 187)).heap[w5.heap.size]?=some (.cells #[.int .i64 0, .slice none 0 0] 187 (0,0)):=heap_alloc_at
     have hbz:w5.heap.size≠ra:=by have:=lt_of_block hR5.blk;omega
     have hz0:wr.heap.size≤w5.heap.size:=hM5.size
     obtain ⟨bz,hbze⟩: ∃bz,w5.heap.size=bz:=⟨_,rfl⟩
     rw [hbze] at hA6 hbz hz0 ⊢
     generalize w5.alloc (.cells #[.int .i64 0, .slice none 0 0] 187)=w6 at*
     refine hK _ _ trivial ?_
     clear hK K hb hbze
     refine z_two rfl rfl (fun K hK=> ?_) (fun K hK=> ?_)
     ·go_simp
      refine (HGET.out _ hR6).mono ?_
      rintro e w7 ⟨rfl,hR7,hm⟩
      have hM7:Mod (fun x=>x=ra) wr w7:=hM6.trans hm (fun _ h=>h) fun _ _ h=>h
      have hA7:=hm.heap (S:=fun x=>x=ra) hA6 (fun e=>hbz e)
      refine hK _ _ trivial ?_
      clear hK K hm
      iterate 1 (refine z_take rfl (fun K hK=> ?_);go_simp;refine hK _ ?_;clear hK K)
      rw [HU.out]
      refine z_show' rfl (fun K hK=> ?_)
      obtain ⟨w8,hmk,hB8,hb⟩:=make8 w7 128 (by decide)
      refine wp_of_run (hmk _ _ _ _ _ _ _ _ rfl rfl) ?_
      go_frame
      have hR8:=hR7.below hb
      have hM8:Mod (fun x=>x=ra) wr w8:=hM7.trans (Mod.of_below hb) (fun _ h=>h) fun x hx h=>absurd h (Nat.not_le.2 (Nat.lt_of_lt_of_le hx hM7.size))
      have hA8:=(hb.block _ (lt_of_block hA7)).trans hA7
      have hbm:bz≠w7.heap.size:=by have:=lt_of_block hA7;omega
      have hmd:w7.heap.size≠ra:=by have:=lt_of_block hR7.blk;omega
      have hm0:wr.heap.size≤w7.heap.size:=hM7.size
      obtain ⟨md,hmde⟩: ∃md,w7.heap.size=md:=⟨_,rfl⟩
      rw [hmde] at hB8 hmd hm0 hbm ⊢
      refine hK _ _ trivial ?_
      clear hK K hb hmk hmde
      refine z_take rfl (fun K hK=>⟨_,fun w'=>exec_buildA (cells:= #[.int .i64 (x12:Nat), .slice (some ⟨md,0,none⟩) 128 128]) rfl (by kernel_rfl),?_⟩)
      go_simp
      refine hK _ ?_
      clear hK K
      obtain ⟨w9,hr9,hh9,hm9⟩:=exec_storeB (P:=Tryz.prog) (ρ:=fun _=>undef) (ty:=0) (pos:= "") (after:= #[]) (x:= .tmp 0) (y:= .tmp 0) (aggPt (x12:Nat) (.slice (some ⟨md,0,none⟩) 128 128)) hA8 rfl (onePt _ _ _ _)
      refine z_skip rfl (hr9 _ _ _ _ _ _ _ _ rfl rfl) ?_
      refine z_nil ?_
      have hR9:=hR8.mod hm9 (fun e=>hbz e.symm) (fun r hr e=>by have:=hrvl r hr;have e:r=bz:=e;omega)
      have hM9:Mod (fun x=>x=ra) wr w9:=hM8.trans hm9 (fun _ h=>h) fun x hx h=>absurd h (by have:=hz0;omega)
      have hB9:Bk w9 md (List.replicate 128 0):=hm9.heap (S:=fun x=>x=bz) hB8 (fun e=>hbm e.symm)
      go_wp2
      go_meet
      case rel=>exact ⟨bz,md,rfl,hh9,hB9,hR9,hM9,hbm,hz0,hm0⟩
     ·obtain ⟨w7,hmk,hB7,hb⟩:=make8 w6 128 (by decide)
      refine wp_of_run (hmk _ _ _ _ _ _ _ _ rfl rfl) ?_
      go_frame
      have hR7:=hR6.below hb
      have hM7:Mod (fun x=>x=ra) wr w7:=hM6.trans (Mod.of_below hb) (fun _ h=>h) fun x hx h=>absurd h (Nat.not_le.2 (Nat.lt_of_lt_of_le hx hM6.size))
      have hA7:=(hb.block _ (lt_of_block hA6)).trans hA6
      have hbm:bz≠w6.heap.size:=by have:=lt_of_block hA6;omega
      have hmd:w6.heap.size≠ra:=by have:=lt_of_block hR6.blk;omega
      have hm0:wr.heap.size≤w6.heap.size:=hM6.size
      obtain ⟨md,hmde⟩: ∃md,w6.heap.size=md:=⟨_,rfl⟩
      rw [hmde] at hB7 hmd hm0 hbm ⊢
      refine hK _ _ trivial ?_
      clear hK K hb hmk hmde
      refine z_show' rfl (fun K hK=> ?_)
      go_simp
      refine (HGET.out _ hR7).mono ?_
      rintro e w8 ⟨rfl,hR8,hm⟩
      have hM8:Mod (fun x=>x=ra) wr w8:=hM7.trans hm (fun _ h=>h) fun _ _ h=>h
      have hA8:=hm.heap (S:=fun x=>x=ra) hA7 (fun e=>hbz e)
      have hB8:Bk w8 md (List.replicate 128 0):=hm.heap (S:=fun x=>x=ra) hB7 (fun e=>hmd e)
      refine hK _ _ trivial ?_
      clear hK K hm
      iterate 1 (refine z_take rfl (fun K hK=> ?_);go_simp;refine hK _ ?_;clear hK K)
      rw [HU.out]
      refine z_take rfl (fun K hK=>⟨_,fun w'=>exec_buildA (cells:= #[.int .i64 (x12:Nat), .slice (some ⟨md,0,none⟩) 128 128]) rfl (by kernel_rfl),?_⟩)
      go_simp
      refine hK _ ?_
      clear hK K
      obtain ⟨w9,hr9,hh9,hm9⟩:=exec_storeB (P:=Tryz.prog) (ρ:=fun _=>undef) (ty:=0) (pos:= "") (after:= #[]) (x:= .tmp 0) (y:= .tmp 0) (aggPt (x12:Nat) (.slice (some ⟨md,0,none⟩) 128 128)) hA8 rfl (onePt _ _ _ _)
      refine z_skip rfl (hr9 _ _ _ _ _ _ _ _ rfl rfl) ?_
      refine z_nil ?_
      have hR9:=hR8.mod hm9 (fun e=>hbz e.symm) (fun r hr e=>by have:=hrvl r hr;have e:r=bz:=e;omega)
      have hM9:Mod (fun x=>x=ra) wr w9:=hM8.trans hm9 (fun _ h=>h) fun x hx h=>absurd h (by have:=hz0;omega)
      have hB9:Bk w9 md (List.replicate 128 0):=hm9.heap (S:=fun x=>x=bz) hB8 (fun e=>hbm e.symm)
      go_wp2
      go_meet
      case rel=>exact ⟨bz,md,rfl,hh9,hB9,hR9,hM9,hbm,hz0,hm0⟩
   obtain ⟨bz,md,rfl,hbx,hBk,hR6,hM6,hbm,hbz,hmd⟩:=hcut
   have hwc:wr.heap.size≤wc.heap.size:=hM6.size
   obtain ⟨Z,hZ⟩: ∃Z,wr.heap.size=Z:=⟨_,rfl⟩
   have HO6:=Lib.hid (HO.out.kept hM6.size fun r hr=>hM6.block r (HO.out.lt hr) fun e=>by have e:r=ra:=e;have:=HO.out.lo r hr;omega)
   have HD6:=Lib.hid (HD.out.mod hM6 fun b h1 h2 e=>by have e:b=ra:=e;omega)
   have HOZ:Hid (∀r,u8.ownBlock=some r→r<Z):=Lib.hid fun r hr=>by rw [←hZ];exact HO.out.lt hr
   have HDZ:Hid (∀x∈xs, ∀r,(sv x.2).ownBlock=some r→r<Z):=Lib.hid fun x hx r hr=>by rw [←hZ];exact ((HD.out x hx).2 r hr).2.1
   have HBc:=Lib.hid (HB.out.trans (hM6.below HB.out.size fun x hx e=>by have e:x=ra:=e;omega))
   rw [hZ] at hwi hbz hmd hwc hrvl
   have hraw:ra<Z:=by omega
   clear hZ
   have hbxl:=lt_of_block hbx
   have hmdl:=hBk.lt
   have q1:=cell_of (o:=1) hbx rfl
   have HBX:=Lib.hid hbx
   have HBK:=Lib.hid hBk
   have HR6:=Lib.hid hR6
   have HM6:=Lib.hid hM6
   clear hbx hBk hR6 hM6 hR
   go_wp2_with fail
   go_loopw [26] (fun jv wi=> ∃j:Nat,j≤128∧jv= .int .i64 j∧RdAt wi ra rv B (get8s B a12 e12 j).2.1 (get8s B a12 e12 j).2.2∧Bk wi md ((get8s B a12 e12 j).1++List.replicate (128-j) 0)∧Mod (fun b=>b=ra∨b=md) wc wi) (fun jv _=>128-(intOf jv).toNat)
   case atStart=>exact ⟨0,Nat.zero_le _,rfl,HR6.out,HBK.out,Mod.refl _ _⟩
   case round=>
    obtain ⟨j,hj,rfl,hRj,hBj,hMj⟩:=hrel
    by_cases hjl:j<128
    ·have hjl':(j:Int)<128:=by omega
     have hlen:=get8s_len B a12 e12 j
     have hgle:=get8s_le B e12 hale1 j
     have hnx:get8s B a12 e12 (j+1)=((get8s B a12 e12 j).1++ [(getA B (get8s B a12 e12 j).2.1 (get8s B a12 e12 j).2.2 8).1],(getA B (get8s B a12 e12 j).2.1 (get8s B a12 e12 j).2.2 8).2):=rfl
     have hy:=getA_lt B (get8s B a12 e12 j).2.1 (get8s B a12 e12 j).2.2 8
     have hget:=get_any (hRj.below (Below.refl _ _).drew) hgle 8 (by decide)
     have hsplit:List.replicate (128-j) 0=List.replicate (127-j+1) 0:=by rw [show 128-j=127-j+1 by omega]
     rw [hsplit] at hBj
     have hset:=set_at (m:=127-j) (y:=(getA B (get8s B a12 e12 j).2.1 (get8s B a12 e12 j).2.2 8).1) hlen
     have hcur:((get8s B a12 e12 j).1++List.replicate (127-j+1) 0)[j]?=some 0:=by
      rw [List.getElem?_append_right (by omega),hlen,Nat.sub_self,List.replicate_succ]
      rfl
     have HNX:=Lib.hid hnx
     have HSET:=Lib.hid hset
     generalize get8s B a12 e12 j=G at*
     obtain ⟨GL,Ga,Ge⟩:=G
     simp only at hRj hBj hget hcur hy hgle
     generalize getA B Ga Ge 8=Y at*
     obtain ⟨y,Ya,Ye⟩:=Y
     simp only at hget hy
     have hy8:y<256:=Nat.lt_of_lt_of_le hy (by decide)
     have HUY:Hid (IntKind.u8.wrap ((y:Nat):Int)=((y:Nat):Int)):=Lib.hid (by rw [Bt.wrap8,Nat.mod_eq_of_lt hy8])
     have hS:wr.drew.cell? ⟨bz,1,none⟩=some (.slice (some ⟨md,0,none⟩) 128 128):=cell_mod (S:=fun b=>b=ra∨b=md) q1 hMj.drew (fun e=>by rcases e with e|e<;>omega)
     have hBd:Bk wr.drew md (GL++List.replicate (127-j+1) 0):=hBj
     have HMJ:=Lib.hid hMj
     clear hnx hset hRj hBj hMj hlen hsplit hy hgle
     go_upto_region 10 with fail
     refine wp_region_x (fun w'=>w'.cell? ⟨bz,1,none⟩=some (.slice (some ⟨md,0,none⟩) 128 128)) [(0,1),(1,0),(2,1),(3,1),(4,2),(5,1),(6,1),(7,3)] (by kernel_rfl) (by kernel_rfl) (by intro d v c a w h;cases d<;>exact h) ?_
     iterate 1 (refine x_take rfl (fun K hK=> ?_);go_simp;refine hK _ ?_;clear hK K)
     refine x_read rfl hS (fun w' h=>exec_load1 ⟨⟨_,Tryz.underlying44,rfl⟩⟩ rfl h) ?_
     iterate 2 (refine x_take rfl (fun K hK=> ?_);go_simp;refine hK _ ?_;clear hK K)
     refine x_show' rfl (fun K hK=> ?_)
     go_simp
     refine hget.mono ?_
     rintro e w7 ⟨rfl,hR7,hm7⟩
     have hB7:Bk w7 md (GL++List.replicate (127-j+1) 0):=hm7.heap hBd (fun e=>by have e:md=ra:=e;omega)
     refine hK _ _ (cell_mod hS hm7 (fun e=>by have e:bz=ra:=e;omega)) ?_
     clear hK K hS hBd hget
     iterate 1 (refine x_take rfl (fun K hK=> ?_);go_simp;refine hK _ ?_;clear hK K)
     rw [HUY.out]
     iterate 1 (refine x_take rfl (fun K hK=> ?_);go_simp;refine hK _ ?_;clear hK K)
     have hcell:=hB7.cell hcur
     have hfr:=hB7.free j
     refine x_skip rfl (exec_store1 ⟨⟨_,Tryz.underlying5,rfl⟩⟩ size8 rfl rfl rfl hcell hfr) ?_
     refine x_nil ?_
     have hBs:=hB7.set j y
     rw [HSET.out] at hBs
     have hm8:Mod (fun b=>b=md) w7 (w7.setCell ⟨md,j,none⟩ (.int .u8 (y:Nat))):=(Mod.refl _ _).setCell _ _ fun _=>rfl
     have hR8:=hR7.mod hm8 (fun e=>by have e:ra=md:=e;omega) (fun r hr e=>by have e:r=md:=e;have:=hrvl r hr;omega)
     have HBS:=Lib.hid hBs
     have HR8:=Lib.hid hR8
     have HM8:Hid (Mod (fun b=>b=ra∨b=md) wc (w7.setCell ⟨md,j,none⟩ (.int .u8 (y:Nat)))):=Lib.hid ((HMJ.out.drew.trans (T:=fun b=>b=ra∨b=md) hm7 (fun _ h=>h) fun x _ h=> .inl h).trans (T:=fun b=>b=ra∨b=md) hm8 (fun _ h=>h) fun x _ h=> .inr h)
     clear hB7 hR7 hm7 hcell hfr hBs hm8 hR8 hcur
     go_wp2
     go_roundw
     case rel=>exact ⟨j+1,by omega,by go_num,by rw [HNX.out];exact HR8.out,by rw [HNX.out,show 128-(j+1)=127-j by omega];exact HBS.out,HM8.out⟩
     case measure=>simp [intOf];omega
    ·obtain rfl:j=128:=by omega
     rw [Nat.sub_self,List.replicate_zero,List.append_nil] at hBj
     have hlen:=get8s_len B a12 e12 128
     have hlt8:=get8s_lt B a12 e12 128
     generalize get8s B a12 e12 128=G at*
     obtain ⟨GL,Ga,Ge⟩:=G
     simp only at hRj hBj hlen HDN hlt8
     have hmZ: ∀b,w3.heap.size≤b→b<Z→¬(b=ra∨b=md):=fun b h1 h2 e=>by rcases e with e|e<;>omega
     have hO8:=HO6.out.kept hMj.size fun r hr=>hMj.block r (HO6.out.lt hr) (hmZ r (HO6.out.lo r hr) (HOZ.out r hr))
     have hD8:DatG w3.heap.size wr u8 xs:=fun x hx=>⟨(HD6.out x hx).1.mod hMj fun r hr=>hmZ r ((HD6.out x hx).2 r hr).1 (HDZ.out x hx r hr),fun r hr=>⟨((HD6.out x hx).2 r hr).1,Nat.lt_of_lt_of_le ((HD6.out x hx).2 r hr).2.1 hMj.size,((HD6.out x hx).2 r hr).2.2⟩⟩
     have hbx8:Lies wr bz 0 #[.int .i64 (x12:Nat), .slice (some ⟨md,0,none⟩) 128 128]:=lies_of (hMj.heap HBX.out (fun e=>by rcases e with e|e<;>omega))
     have hsl8:=Bk.sl hBj (o:=0) (n:=128) (cap:=128) (by omega) (by decide) (by decide)
     rw [List.drop_zero,List.take_of_length_le (by omega)] at hsl8
     have hb8:Below w.heap.size w wr:=HBc.out.trans (hMj.below HBc.out.size fun x hx e=>by rcases e with e|e<;>omega)
     have hmd8:=hBj.lt
     have hw38:w3.heap.size≤wr.heap.size:=by have:=hMj.size;omega
     have herr:=rerr_any hRj
     have HO8:=Lib.hid hO8
     have HD8:=Lib.hid hD8
     have HBX8:=Lib.hid hbx8
     have HSL8:=Lib.hid hsl8
     have HB8:=Lib.hid hb8
     have HR8:=Lib.hid hRj
     have hol:xs.length≤1000000000:=by
      have:=congrArg List.length HXS.out
      simp only [List.length_map] at this
      omega
     clear hO8 hD8 hbx8 hsl8 hb8 hRj hBj hMj hlen hmZ q1
     by_cases hge:Ge=0
     ·subst hge
      have HDN2:Hid (decGo B A0 E0 (k+1)=some (l++ [(((x12:Nat):Int),GL)],Ga,0)):=Lib.hid (by rw [HDN.out,if_neg (by simp)])
      simp only [Int.ofNat_zero] at herr
      clear HDN
      go_wp2_with (first
       | (go_at_call 65;refine herr.mono ?_;rintro e w9 ⟨rfl,hw9⟩;obtain rfl:=hw9.symm;clear hw9)
       | ((with_reducible refine wpList_loadA (aggPt _ _) HBX8.out ?_ ?_);rfl;go_frame)
       | ((with_reducible refine wpList_append1Y elPt HO8.out ((((x12:Nat):Int),GL),(some ⟨md,0,none⟩,128,128)) hol ?_ ?_ ?_ ?_);rfl;rfl;rfl;(intro v9 w9 hO9 hm9 hv9;have HO9:=Lib.hid hO9;have HM9:=Lib.hid hm9;have HV9:=Lib.hid hv9;clear hO9 hm9 hv9);go_frame)
       | fail)
      have hown: ∀r,u8.ownBlock=some r→w3.heap.size≤r:=HO8.out.lo
      have hB9:=HB8.out.trans (HM9.out.below HB8.out.size fun x hx e=>by have:=hown x e;have:=HB3.out.size;omega)
      have hR9:=HR8.out.mod HM9.out (fun e=>by have:=hown ra e;omega) (fun r hr e=>by have:=hown r e;have:=HRVL3.out r hr;omega)
      have hD9:=DatG.push (x:=((((x12:Nat):Int),GL),((some ⟨md,0,none⟩,128,128):Sv))) HD8.out HO8.out HSL8.out (fun r hr=>by
       have hr':md=r:=Option.some.inj hr
       subst hr'
       exact ⟨by omega,hmd8,fun e=>by have:=HOZ.out _ e;omega⟩) HM9.out HV9.out
      have hs9:=HM9.out.size
      go_roundw
      case rel=>exact ⟨k+1,by omega,by go_num,hB9,by omega,_,Ga,0,HDN2.out,hR9,_,by rw [List.map_append,HXS.out];rfl,HO9.out,hD9⟩
      case measure=>simp [intOf];omega
     ·have hne:((Ge:Int) !=0)=true:=by rw [bne_iff_ne];omega
      have hno:decGo B A0 E0 (k+1)=none:=by rw [HDN.out,if_pos hge]
      have hno2:=decGo_none hno (n-(k+1))
      rw [show k+1+(n-(k+1))=n by omega] at hno2
      have HR:Hid (R=none):=Lib.hid (by rw [HDB.out,hno2])
      clear HDN hno hno2 hge
      go_wp2_with (first
       | (go_at_call 65;refine herr.mono ?_;rintro e w9 ⟨rfl,hw9⟩;obtain rfl:=hw9.symm;clear hw9)
       | fail)
      go_ret2
      rw [HR.out]
      exact ⟨HB8.out,none,0,0,rfl⟩
  ·obtain rfl:k=n:=by omega
   have HR:Hid (R=if endR B a er=0∧transB l homes=true then some l else none):=Lib.hid (by rw [HDB.out,hdec])
   have hend:=end_any hR hale
   have hll2:l.length=xs.length:=by rw [←hxs];simp
   obtain ⟨a8,n8,c8,rfl⟩:=hO.shape
   have HP:Hid (PtsI wr (.slice a8 n8 c8) l):=Lib.hid ⟨xs,hxs,hO.sl elPt.len,fun x hx=>(hD x hx).1⟩
   have HPO:Hid (∃xs:List (Pt×Sv),xs.map (·.1)=l∧LOut enPt 2 187 w3.heap.size wr (.slice a8 n8 c8) xs∧DatG w3.heap.size wr (.slice a8 n8 c8) xs):=Lib.hid ⟨xs,hxs,hO,hD⟩
   have HB:=Lib.hid hb
   have hln:l.length≤100000:=by omega
   generalize endR B a er=en at*
   clear hdec hR hxs hO hD hb hlq hll2
   have fin: ∀w9:World,Below wr.heap.size wr w9→PtsO w.heap.size w9 (.slice a8 n8 c8) l:=fun w9 hb9=>by
    obtain ⟨xs,h1,h2,h3⟩:=HPO.out
    have hB3:=HB3.out.size
    exact ⟨xs,h1,(h2.below hb9).mono hB3,fun x hx=>⟨((h3.below hb9) x hx).1,fun r hr=>⟨Nat.le_trans hB3 (((h3.below hb9) x hx).2 r hr).1,(((h3.below hb9) x hx).2 r hr).2⟩⟩⟩
   have HFIN:=Lib.hid fin
   clear fin
   by_cases hen:en=0
   ·subst hen
    simp only [Int.ofNat_zero] at hend
    obtain ⟨t,ht⟩: ∃t,transB l homes=t:=⟨_,rfl⟩
    have htr:=fun w9 (hb9:Below wr.heap.size wr w9)=>trans_any w9 _ l (HP.out.below hb9) homes hh hln
    rw [ht] at htr HR
    clear ht
    have HTR:=Lib.hid htr
    clear htr
    go_wp2_with (first
     | (go_at_call 168;refine hend.mono ?_;rintro e w9 ⟨rfl,hb9⟩;have HB9:=Lib.hid hb9;clear hb9 hend)
     | (go_at_call 171;refine (HTR.out _ HB9.out).mono ?_;rintro e w10 ⟨rfl,hb10⟩;have HB10:=Lib.hid (HB9.out.trans (hb10.mono HB9.out.size));clear hb10)
     | fail)
    go_ret2
    refine ⟨HB.out.trans (HB10.out.mono HB.out.size),?_⟩
    rw [HR.out]
    cases t with
    | true=>exact ⟨.slice a8 n8 c8,rfl,HFIN.out _ HB10.out⟩
    | false=>exact ⟨a8,n8,c8,rfl⟩
   ·have hne:((en:Int)==0)=false:=beq_eq_false_iff_ne.2 (by omega)
    have HR2:Hid (R=none):=Lib.hid (by rw [HR.out,if_neg (fun e=>hen e.1)])
    clear hen HR
    go_wp2_with (first
     | (go_at_call 168;refine hend.mono ?_;rintro e w9 ⟨rfl,hb9⟩;have HB9:=Lib.hid hb9;clear hb9 hend)
     | fail)
    go_ret2
    refine ⟨HB.out.trans (HB9.out.mono HB.out.size),?_⟩
    rw [HR2.out]
    exact ⟨a8,n8,c8,rfl⟩
end Go.Proofs.YtjdbbnhnbdocbaaGreat
namespace Go.Tn.Dk
open Go.Tn.Bt Go.Tn.Lp
theorem recGo_len (d:Dsk) (n next floor:Nat): ∀(fuel:Nat) (acc:List Pc),(recGo d n next floor fuel acc).length≤acc.length+fuel
 | 0,acc=>by simp [recGo]
 | fuel+1,acc=>by
  cases hq:pieceB d n (next+acc.length) with
  | none=>
   cases acc<;>simp only [recGo,hq]<;>simp
  | some q=>
   cases acc with
   | nil=>
    simp only [recGo,hq]
    split
    ·split
     ·simp
     ·have:=recGo_len d n next floor fuel [q]
      simp at this ⊢
      omega
    ·simp
   | cons p0 r=>
    simp only [recGo,hq]
    split
    ·split
     ·simp
     ·have:=recGo_len d n next floor fuel (p0::r++ [q])
      simp at this ⊢
      omega
    ·simp
theorem recGo_mem (d:Dsk) (n next floor:Nat) (P:Pc→Prop) (hP: ∀c q,pieceB d n c=some q→P q): ∀(fuel:Nat) (acc:List Pc),(∀q∈acc,P q)→ ∀q∈recGo d n next floor fuel acc,P q
 | 0,acc,_,q,h=>by simp [recGo] at h
 | fuel+1,acc,ha,q,h=>by
  cases hq:pieceB d n (next+acc.length) with
  | none=>
   cases acc<;>simp only [recGo,hq] at h<;>cases h
  | some x=>
   have hx:=hP _ _ hq
   cases acc with
   | nil=>
    simp only [recGo,hq] at h
    split at h
    ·split at h
     ·rw [List.mem_singleton.1 h];exact hx
     ·exact recGo_mem d n next floor P hP fuel [x] (fun y hy=>by rw [List.mem_singleton.1 hy];exact hx) q h
    ·cases h
   | cons p0 r=>
    have hn: ∀y∈p0::r++ [x],P y:=fun y hy=>by
     rcases List.mem_append.1 hy with hy|hy
     ·exact ha y hy
     ·rw [List.mem_singleton.1 hy];exact hx
    simp only [recGo,hq] at h
    split at h
    ·split at h
     ·exact hn q h
     ·exact recGo_mem d n next floor P hP fuel _ hn q h
    ·cases h
end Go.Tn.Dk
namespace Go.Proofs.YtjdbbnhnbdocbaaGreat
open Go.RowKit Go.Tn Go.Tn.Bt Go.Tn.Lp Go.Tn.Dk
theorem pieceB_ok {d:Dsk} (hd:d.ok) {n:Nat} (hn:0<n) (hnd:n+2≤d.L.length) {c:Nat} {q:Pc} (h:pieceB d n c=some q):q.ok∧ ∀x∈q.da,x<256:=by
 unfold pieceB at h
 have hix:2+c %n<d.L.length:=by have:=Nat.mod_lt c hn;omega
 cases hu:unsealB (d.get (2+c %n)) with
 | none=>rw [hu] at h;cases h
 | some x=>
  rw [hu] at h
  simp only at h
  split at h
  ·cases h
   exact unsealB_ok (hd.get hix).2 hu
  ·cases h
theorem recordB_ok {l:Lg} {d:Dsk} (hd:d.ok) (hn:0<l.n) (hnd:l.n+2≤d.L.length) (floor:Nat): ∀q∈l.recordB d floor,q.ok∧ ∀x∈q.da,x<256:=
 recGo_mem d l.n l.next floor _ (fun c q h=>pieceB_ok hd hn hnd h) l.free [] fun q hq=>by cases hq
theorem recordB_len (l:Lg) (d:Dsk) (floor:Nat):(l.recordB d floor).length≤l.free:=by
 have:=recGo_len d l.n l.next floor l.free []
 simpa [Lg.recordB] using this
theorem recOf_len: ∀(ps:List Pc),(∀q∈ps,q.ok)→(recOf ps).length≤106*ps.length
 | [],_=>by simp [recOf]
 | p::ps,h=>by
  have h1:=(h p List.mem_cons_self).2.2
  have h2:=recOf_len ps fun q hq=>h q (List.mem_cons_of_mem _ hq)
  simp only [recOf,List.flatMap_cons,List.length_append,List.length_cons] at h2 ⊢
  omega
def replayGo (d:Dsk):Nat→Lg→Nat→Lg
 | 0,l,_=>l
 | fuel+1,l,floor=>match joinB (l.recordB d floor) with
  | none=>l
  | some b=>match decB b (l.homes d) with
   | none=>l
   | some ps=>replayGo d fuel {l with H:=takeH l.H ps,next:=l.next+(l.recordB d floor).length} (((l.recordB d floor).head?.map (·.ep)).getD 0)
def replayL (l:Lg) (d:Dsk) (floor:Nat):Lg:=replayGo d (l.free+1) l floor
theorem joinB_ne {ps:List Pc} {b:List Nat} (h:joinB ps=some b):ps≠ []:=fun e=>by
 rw [e] at h
 cases h
end Go.Proofs.YtjdbbnhnbdocbaaGreat
