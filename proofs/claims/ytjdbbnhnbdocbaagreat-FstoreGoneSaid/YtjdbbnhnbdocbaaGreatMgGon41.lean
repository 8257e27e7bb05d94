import Derived.Test.YtjdbbnhnbdocbaaGreatMgGon40
namespace Go.Proofs.YtjdbbnhnbdocbaaGreat
open Go.RowKit Go.Tn Go.Tn.Bt Go.Tn.Lp Go.Tn.Dk Go.Tn.Ino Go.Tn.Dr Go.Tn.Fm Go.Tn.Names
section
variable {w w':World} {F FD:Nat→Prop} {s g p:Nat} {l:Lg} {d:Dsk} {M:Sm}
theorem exec_copyStr (w:World) (r:Nat) (L:List Nat) (h:Bk w r L) (t:ByteArray) (o dLen dCap:Nat) (hd:t.size≤dLen) (ho:o+t.size≤L.length):
  ∃w',(∀(ρ:Operand→Value) (dst:Option Tmp) (ty:TypeId) (pos:String) (after:Array Edge) (g:Option (Nat×Bool)) (x y:Operand),ρ x= .slice (some ⟨r,o,none⟩) dLen dCap→ρ y= .string t→
   (execOp ρ ⟨dst, .call {callee:= .builtin .copy,args:= #[x,y],argTypes:= #[44,9]},ty,pos,after,g⟩).run Tryz.prog w= .ok (.value (.int .i64 (t.size:Nat))) w')∧Bk w' r (L.take o++(bsz t).map (·.toNat)++L.drop (o+t.size))∧Mod (fun x=>x=r) w w':=by
 have hr:=fun ty=>Go.Lib.run_copy_row_string (P:=Tryz.prog) w 44 9 ty 5 r o dLen dCap t (cells8 L) 5 Tryz.underlying44 size8 h hd (by simp [cells8];omega)
 refine ⟨w.setRow r ((cells8 L).toList.take o++Go.Lib.byteCells t.data.toList++(cells8 L).toList.drop (o+t.size)).toArray,fun ρ dst ty pos after g x y hx hy=> ?_,?_,setRow_mod r _ w⟩
 ·simp only [execOp,resolve,invoke,builtin,Sem.run_bind,Sem.run_pure,Result.andThen_ok,List.map_toArray,List.map_cons,List.map_nil,hx,hy,hr,goInt]
 ·unfold Bk
  have e:(cells8 (L.take o++(bsz t).map (·.toNat)++L.drop (o+t.size)))=((cells8 L).toList.take o++Go.Lib.byteCells t.data.toList++(cells8 L).toList.drop (o+t.size)).toArray:=by
   simp [cells8,List.map_take,List.map_drop,Go.Lib.byteCells,bsz]
  rw [e]
  exact setRow_heap w r _ _ _ _ h
theorem file_bytes {t:ByteArray} (h:t.size≤64):((List.replicate 128 0).set 0 t.size).take 1++(bsz t).map (·.toNat)++((List.replicate 128 0).set 0 t.size).drop (1+t.size)=fileSec t:=by
 have e:(List.replicate 128 0).set 0 t.size=t.size::List.replicate 127 0:=rfl
 rw [e]
 unfold fileSec
 rw [show 1+t.size=t.size+1 by omega,List.drop_succ_cons,List.drop_replicate]
 rfl
theorem BlockR.lt {n i q err err':Nat} {T T':Nat→Bool} {H H':Nat→Option (List Nat)} {bl bl' b:List Nat} (hr:BlockR n T H err bl i q b T' H' err' bl') (hl: ∀p∈bl,p<4096) (hn:n≤4096): ∀p∈bl',p<4096:=by
 intro p hp
 cases hr with
 | old=>exact hl p hp
 | new h0 h1=>
  rcases List.mem_or_eq_of_mem_set hp with h|h
  ·exact hl p h
  ·omega
 | no=>exact hl p hp
inductive WriteNo (M:Sm) (n:Nat) (f:Int×Int) (k:Int) (t:ByteArray):Nat→Prop
 | out:k<0∨8≤k→WriteNo M n f k t 2
 | big:0≤k→k<8→64<t.size→WriteNo M n f k t 5
 | of:0≤k→k<8→t.size≤64→(M.of f 2).2≠0→WriteNo M n f k t (M.of f 2).2
 | full:0≤k→k<8→t.size≤64→(M.of f 2).2=0→t≠emp→(M.N (M.of f 2).1).blk k.toNat=none→(∀p,p<n→takenP M.P p=true)→WriteNo M n f k t 8
structure WriteYes (M:Sm) (f:Int×Int) (k:Int) (t:ByteArray) (v:Nat) (M':Sm):Prop where
 lo:0≤k
 hi:k<8
 size:t.size≤64
 of:(M.of f 2).2=0
 ver:v=(M.N (M.of f 2).1).ver+1
 N:M'.N=Fm.upd M.N (M.of f 2).1 {M.N (M.of f 2).1 with D:=(M.N (M.of f 2).1).D.set k.toNat t,ver:=(M.N (M.of f 2).1).ver+1}
 rcd:M'.rcd=M.rcd
set_option maxRecDepth 20000 in
set_option maxHeartbeats 8000000 in
theorem fwriteB_any (h:SAt w F FD s g p l d M) (hQ:d.Q.length≤999900000) (hchk:(l.check d).2.2=0→(l.check d).1.ok (l.check d).2.1) (hv: ∀j,(M.N j).ver<1099511627775) (f:Int×Int) (ka:Int) (t:ByteArray):
  Calls Tryz.prog 28 #[.pointer (some ⟨s,0,none⟩), .agg #[.int .i64 f.1, .int .i64 f.2], .int .i64 ka, .string t] w
  fun e w'=> ∃v,ChgR w F FD s g p l d (WriteNo M (l.homes d) f ka t) (WriteYes M f ka t v) (retT v) e w':=by
 obtain ⟨w1,hw1⟩: ∃w1,w.alloc (.cells #[.int .i64 f.1, .int .i64 f.2] 33)=w1:=⟨_,rfl⟩
 have hb1:Below w.heap.size w w1:=by rw [←hw1];exact (Below.refl _ _).alloc (Nat.le_refl _) _
 have hX1:w1.heap[w.heap.size]?=some (.cells #[.int .i64 f.1, .int .i64 f.2] 33 (0,0)):=by rw [←hw1];exact heap_alloc_at
 have h1:=h.below hb1
 have hagf:=aggFl f.1 f.2
 have hLF:Lies w1 w.heap.size 0 #[.int .i64 f.1, .int .i64 f.2]:=lies_of hX1
 have hokc:=fsok_any h1.fs
 have hkn:=fkind_any h1 f 2 (by decide)
 simp only [show ((2:Nat):Int)=2 from rfl] at hkn
 have HB1:=Lib.hid hb1
 have HX1:=Lib.hid hX1
 have HH:=Lib.hid h
 have H1:=Lib.hid h1
 have HQ:=Lib.hid hQ
 have HCHK:=Lib.hid hchk
 have HV:=Lib.hid hv
 clear h hb1 hX1 h1 hQ hchk hv
 go_enter Tryz.func28,Tryz.ntmps28
 go_upto_region 1 with fail
 simp only [hw1] at*
 clear hw1
 go_upto_region 3 with (first
  | (go_at_call 71;refine hokc.mono ?_;rintro e wt ⟨rfl,hw⟩;obtain rfl:=hw.symm;clear hw)
  | fail)
 clear hokc
 by_cases hk0:ka<0
 ·have d0:decide (ka<0)=true:=decide_eq_true hk0
  have HK:=Lib.hid hk0
  clear hk0
  go_wp2
  go_ret2
  exact ⟨0, .inl ⟨2,by decide, .out (.inl HK.out),rfl,HB1.out⟩⟩
 ·have d0:decide (ka<0)=false:=decide_eq_false hk0
  by_cases hk8:8≤ka
  ·have d8:decide ((8:Int)≤ka)=true:=decide_eq_true hk8
   have HK:=Lib.hid hk8
   clear hk0 hk8
   go_wp2
   go_ret2
   exact ⟨0, .inl ⟨2,by decide, .out (.inr HK.out),rfl,HB1.out⟩⟩
  ·have d8:decide ((8:Int)≤ka)=false:=decide_eq_false hk8
   obtain ⟨k,rfl⟩: ∃k:Nat,ka=(k:Int):=⟨ka.toNat,by omega⟩
   have hk:k<8:=by omega
   have hki:(k:Int)<8:=by omega
   have HK:=Lib.hid (And.intro (show (0:Int)≤(k:Int) by omega) hki)
   clear hk0 hk8
   by_cases hsz:64<t.size
   ·have ds:decide ((64:Int)<(t.size:Int))=true:=decide_eq_true (by omega)
    have HS:=Lib.hid hsz
    clear hsz
    go_wp2
    go_ret2
    exact ⟨0, .inl ⟨5,by decide, .big HK.out.1 HK.out.2 HS.out,rfl,HB1.out⟩⟩
   ·have ds:decide ((64:Int)<(t.size:Int))=false:=decide_eq_false (by omega)
    have hs64:t.size≤64:=by omega
    have hsi:(t.size:Int)≤64:=by omega
    have HS:=Lib.hid hs64
    clear hsz
    go_wp2_with (first
     | ((with_reducible refine wpList_loadA hagf hLF ?_ ?_);rfl;go_frame)
     | fail)
    refine hkn.mono ?_
    rintro e w2 ⟨⟨x,hx8,hx0,rfl⟩,hb2⟩
    have hagx:=aggI hx8
    have honex:=inoC_one x
    have hszx:=inoC_size hx8
    obtain ⟨w3,hw3⟩: ∃w3,w2.alloc (.cells (inoC x) 52)=w3:=⟨_,rfl⟩
    have hb3:Below w2.heap.size w2 w3:=by rw [←hw3];exact (Below.refl _ _).alloc (Nat.le_refl _) _
    have hX3:w3.heap[w2.heap.size]?=some (.cells (inoC x) 52 (0,0)):=by rw [←hw3];exact heap_alloc_at
    have hb13:=hb2.trans (hb3.mono hb2.size)
    have HX3:=Lib.hid hX3
    have HB3:=Lib.hid (HB1.out.trans (hb13.mono HB1.out.size))
    have H3:=Lib.hid (H1.out.below hb13)
    have HF3:=Lib.hid ((hb13.block _ (lt_of_block HX1.out)).trans HX1.out)
    have HX8:=Lib.hid hx8
    have HX0:=Lib.hid hx0
    have hxb:w.heap.size<w2.heap.size:=Nat.lt_of_lt_of_le (lt_of_block HX1.out) hb2.size
    have HXB:=Lib.hid hxb
    clear hkn hb2 hb3 hX3 hb13 hLF hx8 hx0 hxb
    go_upto_region 8 with (first
     | ((with_reducible refine wpList_storeA_new hagx ?_ honex ?_ ?_ ?_);(rw [hszx];rfl);rfl;rfl;go_frame)
     | fail)
    simp only [hw3] at*
    clear hw3
    by_cases hc:(M.of f 2).2=0
    ·obtain ⟨j,hj,hj1,hj41,hfe,hk2⟩:=of_file hc
     obtain rfl:=HX0.out hc
     rw [hj] at HX3 HX8 hagx honex hszx
     rw [hc]
     have HC:=Lib.hid hc
     have HJ:=Lib.hid hj
     have HFE:=Lib.hid hfe
     have HK2:=Lib.hid hk2
     have hch:=fchange_any H3.out.fs H3.out.ok (by have:=HH.out.rep.n1;omega) HH.out.rep.n2 HH.out.rep.taken.1
     rw [rep_T HH.out.rep] at hch
     clear hc hj hfe hk2 HX0
     go_wp2_with fail
     refine hch.mono ?_
     rintro e w4 ⟨cc,G,rfl,hC4,hb4,hG4⟩
     have HX4:=Lib.hid ((hb4.block _ (lt_of_block HX3.out)).trans HX3.out)
     have HF4:=Lib.hid ((hb4.block _ (lt_of_block HF3.out)).trans HF3.out)
     have HC4:=Lib.hid hC4
     have HG4:=Lib.hid hG4
     have HB4:=Lib.hid (HB3.out.trans (hb4.mono HB3.out.size))
     have hxG:¬ G w2.heap.size:=fun hg=>by have:=hG4 _ hg;have:=lt_of_block HX3.out;omega
     have hfG:¬ G w.heap.size:=fun hg=>by have:=hG4 _ hg;have:=lt_of_block HF3.out;omega
     have HXG:=Lib.hid hxG
     have HFG:=Lib.hid hfG
     clear hch hC4 hb4 hG4 hxG hfG
     have hP8:=HH.out.rep.mid.len j
     obtain ⟨q,hq⟩: ∃q,(M.P j)[k]?=some q:=⟨_,List.getElem?_eq_getElem (by rw [hP8];exact hk)⟩
     have hfit:=HH.out.rep.fits j
     have hmw:Mod G w w4:=(modB HB4.out).mono fun _ _ h=>h.elim
     have hGw: ∀b,G b→w.heap.size≤b:=fun b hb=>Nat.le_trans HB3.out.size (HG4.out b hb)
     have HQI:=Lib.hid hq
     have HFIT:=Lib.hid hfit
     have HMW:=Lib.hid hmw
     have HGW:=Lib.hid hGw
     clear hP8 hfit hmw hGw
     by_cases ht:t=emp
     ·have HT:=Lib.hid ht
      have hte:t.toList.isEmpty=true:=by rw [ht,bs_eq];rfl
      have hem:=fempty_any HC4.out HX4.out HXG.out hk hq
      clear ht hq
      go_wp2_with fail
      refine hem.mono ?_
      rintro e w5 ⟨rfl,T5,H5,b5,hE5,hC5,hX5,hm5⟩
      obtain ⟨hrep,hck⟩:=empty_rep HH.out.rep ⟨hj1,hj41⟩ HK2.out hk (HV.out j) HQI.out hE5
      have hb5l:b5.length=8:=hE5.len.trans HX8.out
      have hb5m: ∀q∈b5,q<4096:=by
       have h1:EmptyTo (l.homes d) (takenP M.P) (fun _=>none) (M.P j) 0 (takenP M.P) (fun _=>none) (M.P j):= .z
       intro p hp
       cases hE5 with
       | no=>exact HFIT.out.bl p hp
       | yes=>
        rcases List.mem_or_eq_of_mem_set hp with h|h
        ·exact HFIT.out.bl p h
        ·omega
      have hF5:=hm5.heap HF4.out (fun h=>h.elim HFG.out fun e=>by have:=HXB.out;omega)
      rw [HFE.out] at hF5
      have hLF5:=lies_of hF5
      have hLX5:=lies_of hX5
      have hagf2:=aggFl (j:Int) ((M.N j).gen:Int)
      have hx8i:({M.ino j with bl:=b5}:Ino).bl.length=8:=hb5l
      have hagx2:=aggI hx8i
      have hmw:Mod G w w5:=(modB ((HB4.out.trans (hm5.below HB4.out.size fun y hy h=>h.elim (fun hg=>absurd hy (Nat.not_lt.2 (HGW.out y hg))) fun e=>by have:=HXB.out;omega)):Below w.heap.size w w5)).mono fun _ _ h=>h.elim
      obtain ⟨PH,hPH⟩: ∃PH,putH (putH H5 (1+j) (Ino.sec ⟨2,(M.N j).gen,(M.N j).ver+1,b5⟩)) 1 (mapSec T5)=PH:=⟨_,rfl⟩
      have hck15:ChOk (l.homes d) PH 15:=by
       rw [←hPH]
       exact hck.put (by have:=HH.out.rep.n1;omega) (mapSec_sec T5)
      rw [hPH] at hrep
      have htu:=fturned_ok HH.out hmw HGW.out hC5 HQ.out HCHK.out j hj41 ((M.N j).gen:Int) {M.ino j with bl:=b5} ⟨HFIT.out.kind,HFIT.out.gen,HFIT.out.ver,hb5l,hb5m⟩ (by show Ino.right ⟨(M.N j).kind,_,_,_⟩=true;rw [HK2.out];rfl) HK2.out (HV.out j) hPH hck
      have HREP:=Lib.hid hrep
      have HPH:=Lib.hid hPH
      have HCK:=Lib.hid hck15
      clear hem hE5 hC5 hX5 hm5 hrep hck hb5l hb5m hF5 hx8i hmw hPH hck15
      go_wp2_with (first
       | ((with_reducible refine wpList_loadA hagf2 hLF5 ?_ ?_);rfl;go_frame)
       | ((with_reducible refine wpList_loadA hagx2 hLX5 ?_ ?_);rfl;go_frame)
       | fail)
      refine htu.mono ?_
      rintro e w6 ⟨cd,rv,hcd,hrv,rfl,hP⟩
      have HCD:=Lib.hid hcd
      have HRV:=Lib.hid hrv
      have HP:=Lib.hid hP
      clear htu hcd hrv hP hLF5 hLX5
      go_wp2
      go_ret2
      refine ⟨(M.N j).ver+1, .inr ⟨PH,_,HCK.out,⟨1,mapSec T5,by rw [←HPH.out];exact putH_at _ _ _⟩,HREP.out,⟨HK.out.1,HK.out.2,HS.out,HC.out,by rw [HJ.out],by rw [HJ.out,HT.out,Int.toNat_natCast],rfl⟩,?_,HP.out⟩⟩
      rw [HCD.out,retT_eq]
      have:=HRV.out
      simp only [Sm.ino] at this
      rw [this]
      rfl
     ·have HT:=Lib.hid ht
      have hte:t.toList.isEmpty=false:=by
       rw [bs_eq]
       cases hb:bs t with
       | nil=>
        have h1:=bs_len t
        rw [hb] at h1
        exact absurd (bsz_ext (by
         have h2:(bsz t).length=0:=by rw [bsz_len, ←h1];rfl
         rw [List.length_eq_zero_iff.1 h2]
         rfl)) ht
       | cons a r=>rfl
      obtain ⟨w5,hmk,hB5,hb5⟩:=make8 w4 128 (by decide)
      have hc0:=hB5.cell (i:=0) (b:=0) rfl
      have hf0:=hB5.free 0
      have HMK:=Lib.hid hmk
      have HB5:=Lib.hid hB5
      have HB45:=Lib.hid hb5
      clear ht hq hmk hB5 hb5
      go_upto_region 15 with (first
       | ((with_reducible refine wpList_exec rfl (HMK.out _ _ _ _ _ _ _ _ ?_ ?_) ?_);rfl;rfl;go_frame)
       | fail)
      have hB6:Bk (w5.setCell ⟨w4.heap.size,0,none⟩ (.int .u8 (t.size:Nat))) w4.heap.size ((List.replicate 128 0).set 0 t.size):=HB5.out.set 0 t.size
      have hm6:=(Mod.refl (fun y=>y=w4.heap.size) w5).setCell ⟨w4.heap.size,0,none⟩ (.int .u8 (t.size:Nat)) (fun _=>rfl)
      generalize w5.setCell ⟨w4.heap.size,0,none⟩ (.int .u8 (t.size:Nat))=w6 at*
      obtain ⟨w7,hcp,hB7,hm7⟩:=exec_copyStr w6 w4.heap.size _ hB6 t 1 127 127 (by have:=HS.out;omega) (by simp;have:=HS.out;omega)
      rw [file_bytes HS.out] at hB7
      have hsl:=fun (ρ:Operand→Value) (dst:Option Tmp) (ty:TypeId) (pos:String) (after:Array Edge) (g:Option (Nat×Bool)) (x y:Operand) (hx:ρ x= .slice (some ⟨w4.heap.size,0,none⟩) 128 128) (hy:ρ y= .int .i64 1)=>(exec_sliceLo (P:=Tryz.prog) (ρ:=ρ) (dst:=dst) (ty:=ty) (pos:=pos) (after:=after) (g:=g) (x:=x) (y:=y) (w:=w6) (i:=1) Tryz.underlying44 size8 (by decide:1≤128) hx hy)
      simp only [show ¬((128:Nat)=1) by decide,if_false,Option.map_some,addr_add,Nat.mul_one,Nat.zero_add,show 128-1=127 by decide] at hsl
      have HCP:=Lib.hid hcp
      have HSL:=Lib.hid hsl
      have HB7:=Lib.hid hB7
      have hm47:=hm6.trans hm7 (fun _ h=>h) fun _ _ h=>h
      have HM47:=Lib.hid hm47
      clear hB6 hm6 hcp hB7 hm7 hsl hc0 hf0 hm47
      go_upto_region 16 with (first
       | ((with_reducible refine wpList_exec rfl (HSL.out _ _ _ _ _ _ _ _ ?_ ?_) ?_);rfl;rfl;go_frame)
       | ((with_reducible refine wpList_exec rfl (HCP.out _ _ _ _ _ _ _ _ ?_ ?_) ?_);rfl;rfl;go_frame)
       | fail)
      obtain ⟨m,mm,clk,ML,hc4⟩:=HC4.out.inn
      have hGl: ∀b,G b→b<w4.heap.size:=HC4.out.lt
      have hxl:=lt_of_block HX4.out
      have hfl:=lt_of_block HF4.out
      have hc7:=(hc4.below HB45.out).mod HM47.out (fun b hb (e:b=w4.heap.size)=>by have:=hGl b hb;omega)
      have hX7:=HM47.out.heap ((HB45.out.block _ hxl).trans HX4.out) (fun (e:w2.heap.size=w4.heap.size)=>by omega)
      have hF7:=HM47.out.heap ((HB45.out.block _ hfl).trans HF4.out) (fun (e:w.heap.size=w4.heap.size)=>by omega)
      have hlen:(fileSec t).length=128:=fileSec_len (by have:=HS.out;omega)
      have hv7:LRd en8 1 0 w7 (.slice (some ⟨w4.heap.size,0,none⟩) 128 128) (fileSec t):=by
       have h1:=HB7.out.sl (o:=0) (n:=128) (cap:=128) (by rw [hlen];decide) (by decide) (by decide)
       rw [List.drop_zero,List.take_of_length_le (by rw [hlen];exact Nat.le_refl _)] at h1
       exact ⟨h1,fun r hr=>Nat.zero_le _,fun r hr=>by cases hr;exact HB7.out.lt⟩
      have hq4:q<4096:=HFIT.out.bl q (List.mem_of_getElem? HQI.out)
      have hfb:=fblock_any hc7 hX7 HXG.out hk HQI.out hq4 hv7 (fun r hr=>by
       cases hr
       exact ⟨⟨fun (e:w4.heap.size=cc)=>by have:=hGl cc HC4.out.gc;omega,fun (e:w4.heap.size=m)=>by have:=hGl m hc4.gm;omega,fun (e:w4.heap.size=mm)=>by have:=hGl mm hc4.hom.fm;omega⟩,fun (e:w4.heap.size=w2.heap.size)=>by omega⟩)
      have HB7w:Hid (Below w.heap.size w w7):=Lib.hid ((HB4.out.trans (HB45.out.mono HB4.out.size)).trans (HM47.out.below (HB4.out.trans (HB45.out.mono HB4.out.size)).size fun y hy (e:y=w4.heap.size)=>by have:=HB4.out.size;omega))
      have HF7:=Lib.hid hF7
      have HGL:=Lib.hid hGl
      have HC4I:=Lib.hid hc4
      clear hc4 hGl hc7 hX7 hF7 hlen hv7 hq4 HB7
      go_wp2_with fail
      refine hfb.mono ?_
      rintro e w8 ⟨rfl,T8,H8,e8,b8,clk8,L8,hR8,hC8,hX8,hm8⟩
      have hb8l:b8.length=8:=hR8.len.trans HX8.out
      have hb8m: ∀q∈b8,q<4096:=hR8.lt (fun q hq=>HFIT.out.bl q hq) (by have:=HH.out.rep.n2;omega)
      have hnew: ∀y,(y=cc∨y=m∨y=mm)∨y=w2.heap.size→w.heap.size≤y:=fun y hy=>by
       rcases hy with (e|e|e)|e
       ·rw [e];exact HGW.out cc HC4.out.gc
       ·rw [e];exact HGW.out m HC4I.out.gm
       ·rw [e];exact HGW.out mm HC4I.out.hom.fm
       ·rw [e];have:=HXB.out;omega
      have hb8:Below w.heap.size w w8:=HB7w.out.trans (hm8.below HB7w.out.size fun y hy h=>absurd hy (Nat.not_lt.2 (hnew y h)))
      have hF8:=hm8.heap HF7.out (fun h=>by
       rcases h with (e|e|e)|e
       ·exact HFG.out (e ▸ HC4.out.gc)
       ·exact HFG.out (e ▸ HC4I.out.gm)
       ·exact HFG.out (e ▸ HC4I.out.hom.fm)
       ·have:=HXB.out;omega)
      rw [HFE.out] at hF8
      have hLF8:=lies_of hF8
      have hLX8:=lies_of hX8
      have hagf2:=aggFl (j:Int) ((M.N j).gen:Int)
      have hx8i:({M.ino j with bl:=b8}:Ino).bl.length=8:=hb8l
      have hagx2:=aggI hx8i
      have hC8':=hC8.at_
      have hG8w: ∀y,(G y∨(Value.slice (some ⟨w4.heap.size,0,none⟩) 128 128).ownBlock=some y)→w.heap.size≤y:=fun y hy=>by
       rcases hy with hy|hy
       ·exact HGW.out y hy
       ·cases hy
        exact HB4.out.size
      have hmw:Mod (fun y=>G y∨(Value.slice (some ⟨w4.heap.size,0,none⟩) 128 128).ownBlock=some y) w w8:=(modB hb8).mono fun _ _ h=>h.elim
      have hfx:({M.ino j with bl:=b8}:Ino).fits:=⟨HFIT.out.kind,HFIT.out.gen,HFIT.out.ver,hb8l,hb8m⟩
      have hrx:({M.ino j with bl:=b8}:Ino).right=true:=by
       show Ino.right ⟨(M.N j).kind,_,_,_⟩=true
       rw [HK2.out]
       rfl
      have hbr:=block_rep HH.out.rep ⟨hj1,hj41⟩ HK2.out hk (HV.out j) HS.out HT.out HQI.out hR8
      clear hfb hR8 hC8 hX8 hm8 hF8 hx8i hnew hb8 hb8m
      rcases hbr with ⟨rfl,hrep,hck⟩|⟨rfl,hno,hfull⟩
      ·obtain ⟨PH,hPH⟩: ∃PH,putH (putH H8 (1+j) (Ino.sec ⟨2,(M.N j).gen,(M.N j).ver+1,b8⟩)) 1 (mapSec T8)=PH:=⟨_,rfl⟩
       have hck15:ChOk (l.homes d) PH 15:=by
        rw [←hPH]
        exact hck.put (by have:=HH.out.rep.n1;omega) (mapSec_sec T8)
       rw [hPH] at hrep
       have htu:=fturned_ok HH.out hmw hG8w hC8' HQ.out HCHK.out j hj41 ((M.N j).gen:Int) {M.ino j with bl:=b8} hfx hrx HK2.out (HV.out j) hPH hck
       have HREP:=Lib.hid hrep
       have HPH:=Lib.hid hPH
       have HCK:=Lib.hid hck15
       clear hrep hck hb8l hC8' hG8w hmw hfx hrx hPH hck15
       go_wp2_with (first
        | ((with_reducible refine wpList_loadA hagf2 hLF8 ?_ ?_);rfl;go_frame)
        | ((with_reducible refine wpList_loadA hagx2 hLX8 ?_ ?_);rfl;go_frame)
        | fail)
       refine htu.mono ?_
       rintro e w9 ⟨cd,rv,hcd,hrv,rfl,hP⟩
       have HCD:=Lib.hid hcd
       have HRV:=Lib.hid hrv
       have HP:=Lib.hid hP
       clear htu hcd hrv hP hLF8 hLX8
       go_wp2
       go_ret2
       refine ⟨(M.N j).ver+1, .inr ⟨PH,_,HCK.out,⟨1,mapSec T8,by rw [←HPH.out];exact putH_at _ _ _⟩,HREP.out,⟨HK.out.1,HK.out.2,HS.out,HC.out,by rw [HJ.out],by rw [HJ.out,Int.toNat_natCast],rfl⟩,?_,HP.out⟩⟩
       rw [HCD.out,retT_eq]
       have:=HRV.out
       simp only [Sm.ino] at this
       rw [this]
       rfl
      ·have htu:=fturned_any HH.out hmw hG8w hC8' HQ.out HCHK.out j hj41 ((M.N j).gen:Int) {M.ino j with bl:=b8} hfx hrx HK2.out (HV.out j) (fun e=>by cases e)
       have HNO:=Lib.hid hno
       have HFULL:=Lib.hid hfull
       clear hno hfull hb8l hC8' hG8w hmw hfx hrx
       go_wp2_with (first
        | ((with_reducible refine wpList_loadA hagf2 hLF8 ?_ ?_);rfl;go_frame)
        | ((with_reducible refine wpList_loadA hagx2 hLX8 ?_ ?_);rfl;go_frame)
        | fail)
       refine htu.mono ?_
       rintro e w9 (⟨h0, -, -⟩|⟨-,rfl,hb9⟩)
       ·exact absurd h0 (by decide)
       ·have HB9:=Lib.hid hb9
        clear htu hb9 hLF8 hLX8
        go_wp2
        go_ret2
        exact ⟨0, .inl ⟨8,by decide, .full HK.out.1 HK.out.2 HS.out HC.out HT.out (by rw [HJ.out,Int.toNat_natCast];exact HNO.out) HFULL.out,rfl,HB9.out⟩⟩
    ·have hc0:(M.of f 2).2≠0:=hc
     obtain ⟨cd,hcd⟩: ∃cd,(M.of f 2).2=cd:=⟨_,rfl⟩
     rw [hcd] at hc0 ⊢
     have hz:((cd:Int) !=0)=true:=by simp;omega
     have HC0:=Lib.hid hc0
     have HCD:=Lib.hid hcd
     clear hc hc0 hcd
     go_wp2
     go_ret2
     exact ⟨0, .inl ⟨cd,HC0.out,HCD.out ▸ .of HK.out.1 HK.out.2 HS.out (by rw [HCD.out];exact HC0.out),(retT_no HC0.out).symm,HB3.out⟩⟩
end
section
variable {w w':World}
end
theorem Rep.congr {n:Nat} {V V':Nat→List Nat} {M:Sm} (h:Rep n V M) (hV: ∀k,k<n→V' k=V k):Rep n V' M:=by
 have hn:=h.n1
 refine ⟨(hV 0 (by omega)).trans h.rcd,(hV 1 (by omega)).trans h.map,fun j h1 h2=>(hV _ (by omega)).trans (h.ino j h1 h2),h.mid.view fun p hp hT=>hV p ?_,h.nd,h.n1,h.n2⟩
 rcases takenP_iff.1 hT with h1|⟨j, -,h2⟩
 ·omega
 ·exact (h.mid.lo j p h2 (by omega)).2
structure FInv (n i:Nat) (l:Lg) (d:Dsk) (M:Sm):Prop where
 live:KLive n i l d [homesB l d]
 q:Quiet d
 Q:d.Q= []
 rep:Rep (l.homes d) (l.home d) M
 n20:20≤n
 ver: ∀j,(M.N j).ver≤i
section
variable {n i:Nat} {l:Lg} {d:Dsk} {M M':Sm} {H:Nat→Option (List Nat)}
theorem FInv.ok (h:FInv n i l d M) (hi:i≤900):l.ok d:=KInv.ok (.inl h.live) (by omega)
theorem FInv.mono {j:Nat} (h:FInv n i l d M) (hj:i≤j):FInv n j l d M:=⟨h.live.mono hj,h.q,h.Q,h.rep,h.n20,fun k=>Nat.le_trans (h.ver k) hj⟩
theorem FInv.vers (h:FInv n i l d M) (hi:i≤900): ∀j,(M.N j).ver<1099511627775:=fun j=>by have:=h.ver j;omega
theorem FInv.chk (h:FInv n i l d M) (hi:i≤900):(l.check d).2.2=0→(l.check d).1.ok (l.check d).2.1:=fun h0=>by
 obtain ⟨hfit,hdok⟩:=h.live.fitd
 have hep:=h.live.ep
 have hnx:=h.live.nx
 rcases klive_check h.live (by omega) (check_dok hfit hdok (by rw [h.Q];decide)) with ⟨-,c1, -⟩|⟨c0, -⟩
 ·exact KInv.ok (.inl c1) (by omega)
 ·rw [c0] at h0
  cases h0
theorem homes_at (l:Lg) (d:Dsk) {k:Nat} (hk:k<l.homes d):(homesB l d)[k]?=some (l.home d k):=by
 unfold homesB
 rw [List.getElem?_map,List.getElem?_range hk]
 rfl
theorem FInv.puts {ps:List Pt} (h:KLive n i l d [homesB l d]) (hq:Quiet d) (hQ:d.Q= []) (hn:20≤n) (hi:i≤800) (ht:transB ps (l.homes d)=true) (hb: ∀p∈ps, ∀x∈p.2,x<256) (hN:cutN (recB ps)≤20) {V':Nat→List Nat} (hov:overB (homesB l d) ps=(List.range (l.homes d)).map V') (hrep:Rep (l.homes d) V' M') (hv: ∀j,(M'.N j).ver≤i+2):
  ∃l' d',stPut l d ps=(l',d',0)∧FInv n (i+2) l' d' M'∧l'.homes d'=l.homes d:=by
 obtain ⟨l',d',h1,h2,h3,h4,h5, -⟩:=kput_quiet h (by omega) hq ht hb (by omega) (by rw [hQ];decide)
 have hh:l'.homes d'=l.homes d:=by
  have:=congrArg List.length h3
  rwa [homesB_len,overB_len,homesB_len] at this
 refine ⟨l',d',h1,⟨h2,h4,h5,?_,hn,hv⟩,hh⟩
 rw [hh]
 refine hrep.congr fun k hk=> ?_
 have h6:=homes_at l' d' (k:=k) (by rw [hh];exact hk)
 rw [h3,hov,List.getElem?_map,List.getElem?_range hk] at h6
 exact (Option.some.inj h6).symm
theorem FInv.put (h:FInv n i l d M) (hi:i≤800) (hck:ChOk (l.homes d) H 15) (hP: ∃k b,H k=some b) (hrep:Rep (l.homes d) (ov H (l.home d)) M') (hv: ∀j,(M'.N j).ver≤i+2):
  ∃l' d',stPut l d (putsOf l d H)=(l',d',0)∧FInv n (i+2) l' d' M'∧l'.homes d'=l.homes d:=by
 obtain ⟨k,b,hk⟩:=hP
 exact FInv.puts h.live h.q h.Q h.n20 hi (putsOf_trans hck (by decide) hk) (putsOf_bytes hck) (putsOf_cut hck (by decide)) (putsOf_over hck) hrep hv
end
def Sm.root:Sm:=⟨fun j=>if j=1 then ⟨1,1,0, [],List.replicate 8 emp⟩ else Nd.no 0,fun _=>List.replicate 8 0,zeroS⟩
theorem no_ok (g:Nat) (hg:g≤2147483647):NdOk (Nd.no g):=⟨hg,Nat.zero_le _,by simp [Nd.no], .inl ⟨rfl,rfl,rfl,fun t ht=>List.eq_of_mem_replicate ht⟩⟩
theorem root_nd (j:Nat):NdOk (Sm.root.N j):=by
 unfold Sm.root
 simp only
 split
 ·exact ⟨by decide,by decide,by simp, .inr (.inl ⟨rfl,fun e he=>(by cases he), .nil,Nat.zero_le _,fun t ht=>List.eq_of_mem_replicate ht⟩)⟩
 ·exact no_ok 0 (by decide)
theorem root_blk (j k:Nat):(Sm.root.N j).blk k=none:=by
 unfold Sm.root
 simp only
 split
 ·exact List.getElem?_eq_none (by rw [dirB_len];simp)
 ·rfl
theorem root_T:takenP Sm.root.P=T42:=by
 funext i
 rw [Bool.eq_iff_iff,takenP_iff]
 unfold T42
 simp only [decide_eq_true_eq]
 constructor
 ·rintro (h|⟨j, -,h⟩)
  ·exact h
  ·have:i=0:=List.eq_of_mem_replicate (a:=0) (n:=8) h
   omega
 ·exact .inl
theorem root_rep {n:Nat} (h1:46≤n) (h2:n≤1024):Rep n (fun k=>if k=1 then mapSec T42 else if k=2 then Ino.root.sec else zeroS) Sm.root:=by
 refine ⟨rfl,?_,fun j hj1 hj2=> ?_,?_,root_nd,h1,h2⟩
 ·simp only [if_true]
  rw [root_T]
 ·rw [if_neg (by omega)]
  by_cases hj:j=1
  ·subst hj
   have e:Sm.ino Sm.root 1=Ino.root:=rfl
   rw [e]
   rfl
  ·rw [if_neg (by omega)]
   unfold Sm.ino Sm.root
   simp only [if_neg hj]
   decide+kernel
 ·refine ⟨fun j=>rfl,fun j _=>rfl,fun j p hp h0=>absurd (List.eq_of_mem_replicate (a:=0) (n:=8) hp) h0,fun i=>rfl,fun j k j' k' p hp _ h0=>absurd (List.eq_of_mem_replicate (a:=0) (n:=8) (List.mem_of_getElem? hp)) h0,fun j k p hp=> ?_,fun j k p b hp h0=>absurd (List.eq_of_mem_replicate (a:=0) (n:=8) (List.mem_of_getElem? hp)) h0⟩
  have:p=0:=List.eq_of_mem_replicate (a:=0) (n:=8) (List.mem_of_getElem? hp)
  unfold Sm.W
  rw [root_blk]
  simp [this]
theorem newd_quiet (n:Nat):Quiet (newD n):=⟨⟨rfl,rfl⟩,trivial⟩
theorem fformat_inv {n size:Nat} (h20:20≤n) (h48:n+48≤size) (h1024:size≤n+1026) (hs:size≤4096): ∃l' d',stPut (log0 n 1 0 0) (newD size) fmtPs=(l',d',0)∧FInv n 2 l' d' Sm.root∧l'.homes d'=(log0 n 1 0 0).homes (newD size)∧((log0 n 1 0 0).write (newD size) fmtPs).2.2≠8:=by
 have h1:=kinit (n:=n) (size:=size) (by omega) (by omega) hs
 have hh:(log0 n 1 0 0).homes (newD size)=size-2-n:=by
  unfold Lg.homes newD log0
  simp
 have hlm:(mapSec T42).length=128:=(mapSec_sec T42).1
 have hlr:Ino.root.sec.length=128:=by decide+kernel
 have ht:transB fmtPs ((log0 n 1 0 0).homes (newD size))=true:=by
  rw [hh]
  unfold transB fmtPs
  simp [hlm,hlr]
  omega
 have hrl:=recB_len (ps:=fmtPs) (fun p hp=>by
  unfold fmtPs at hp
  simp only [List.mem_cons,List.not_mem_nil,or_false] at hp
  rcases hp with rfl|rfl
  ·exact hlm
  ·exact hlr)
 have hcN:cutN (recB fmtPs)=3:=by
  unfold cutN
  rw [hrl]
  rfl
 have hby: ∀p∈fmtPs, ∀x∈p.2,x<256:=fun p hp=>by
  unfold fmtPs at hp
  simp only [List.mem_cons,List.not_mem_nil,or_false] at hp
  rcases hp with rfl|rfl
  ·exact (mapSec_sec T42).2
  ·exact sector_lt _
 have hz: ∀k,k<size-2-n→(log0 n 1 0 0).home (newD size) k=zeroS:=fun k hk=>by
  show (newD size).get (2+n+k)=zeroS
  exact newd_get (by omega)
 have hov:overB (homesB (log0 n 1 0 0) (newD size)) fmtPs=(List.range ((log0 n 1 0 0).homes (newD size))).map fun k=>if k=1 then mapSec T42 else if k=2 then Ino.root.sec else zeroS:=by
  have e0:homesB (log0 n 1 0 0) (newD size)=(List.range ((log0 n 1 0 0).homes (newD size))).map fun k=>((fun _=>none:Nat→Option (List Nat)) k).getD ((log0 n 1 0 0).home (newD size) k):=rfl
  rw [e0,over_take _ _ fmtPs _ (fun p hp=>by
   unfold fmtPs at hp
   simp only [List.mem_cons,List.not_mem_nil,or_false] at hp
   rw [hh]
   rcases hp with rfl|rfl
   ·exact ⟨by decide,by show (1:Int)<_;omega⟩
   ·exact ⟨by decide,by show (2:Int)<_;omega⟩)]
  refine List.map_congr_left fun k hk=> ?_
  have hkl:=List.mem_range.1 hk
  rw [hh] at hkl
  rw [hz k hkl]
  show ((if (k:Int)=2 then some Ino.root.sec else if (k:Int)=1 then some (mapSec T42) else none):Option (List Nat)).getD zeroS=_
  by_cases k1:k=1
  ·subst k1
   rfl
  ·by_cases k2:k=2
   ·subst k2
    rfl
   ·rw [if_neg (by omega),if_neg (by omega),if_neg k1,if_neg k2]
    rfl
 obtain ⟨l',d',p1,p2,p3⟩:=FInv.puts (M':=Sm.root) h1 (newd_quiet size) rfl h20 (by decide) ht hby (by rw [hcN];decide) hov (by rw [hh];exact root_rep (by omega) (by omega)) (fun j=>by
  unfold Sm.root
  simp only
  split<;>exact Nat.zero_le _)
 refine ⟨l',d',p1,p2,p3,fun h8=> ?_⟩
 have hc:cutB (log0 n 1 0 0).epoch (log0 n 1 0 0).next (recB fmtPs)= .ok (cutL (log0 n 1 0 0).epoch (log0 n 1 0 0).next (recB fmtPs)):=cut_ok ht (by show 1≤16777215;decide) (by show 0+1000≤1099511627775;decide)
 obtain ⟨-,hf⟩:=write_codes rfl ht hc (by rw [h8];decide) (by rw [h8];decide)
 rw [hcN] at hf
 have:(log0 n 1 0 0).free=n:=by
  unfold Lg.free log0
  simp
 omega
theorem mapT_zero {j:Nat}:mapT zeroS j=false:=by
 unfold mapT Al.homesOf
 have hz: ∀k,zeroS.getD k 0=0:=fun k=>by
  unfold zeroS
  rw [List.getD_eq_getElem?_getD,List.getElem?_replicate]
  split<;>rfl
 simp only [hz,Nat.zero_testBit,Bool.and_false]
theorem zero_dec:inoOf zeroS=some (Ino.free 0):=by
 have h1:(inoAt zeroS).kind=0:=by decide+kernel
 have h2:(inoAt zeroS).gen=0:=by decide+kernel
 have h3:(inoAt zeroS).ver=0:=by decide+kernel
 have h4:(inoAt zeroS).bl= [0,0,0,0,0,0,0,0]:=by decide+kernel
 have h5:(Ino.free 0).sec=zeroS:=by decide+kernel
 have he:inoAt zeroS=Ino.free 0:=by
  generalize inoAt zeroS=x at*
  obtain ⟨a,b,c,d⟩:=x
  simp only at h1 h2 h3 h4
  subst h1 h2 h3 h4
  rfl
 unfold inoOf
 rw [he,if_pos ⟨rfl,h5⟩]
structure FSt (w0:World) (s p n i N:Nat) (M:Sm) (O:Nat→Prop) (wi:World):Prop where
 ex: ∃F FD g l d,SAt wi F FD s g p l d M∧FInv n i l d M∧l.homes d=N∧(∀b,F b∨FD b→O b)∧ ∀b,O b→F b∨FD b
 lo: ∀b,O b→w0.heap.size≤b
 s:w0.heap.size≤s
 w:Below w0.heap.size w0 wi
structure FTo (w:World) (O:Nat→Prop) (w':World) (O':Nat→Prop):Prop where
 mod:Mod O w w'
 new: ∀b,O' b→O b∨w.heap.size≤b
theorem FTo.of_below {w w':World} (O:Nat→Prop) (hb:Below w.heap.size w w'):FTo w O w' O:=⟨(modB hb).mono fun _ _ h=>h.elim,fun _ h=> .inl h⟩
section
variable {w0 wi w':World} {s p n i N:Nat} {M:Sm} {O:Nat→Prop}
theorem FSt.below (h:FSt w0 s p n i N M O wi) (hb:Below wi.heap.size wi w'):FSt w0 s p n i N M O w':=by
 obtain ⟨F,FD,g,l,d,h1,h2,h3,h4,h5⟩:=h.ex
 exact ⟨⟨F,FD,g,l,d,h1.below hb,h2,h3,h4,h5⟩,h.lo,h.s,h.w.trans (hb.mono h.w.size)⟩
theorem FSt.mono {j:Nat} (h:FSt w0 s p n i N M O wi) (hj:i≤j):FSt w0 s p n j N M O wi:=by
 obtain ⟨F,FD,g,l,d,h1,h2,h3,h4,h5⟩:=h.ex
 exact ⟨⟨F,FD,g,l,d,h1,h2.mono hj,h3,h4,h5⟩,h.lo,h.s,h.w⟩
theorem FSt.lt (h:FSt w0 s p n i N M O wi): ∀b,O b→b<wi.heap.size:=fun b hb=>by
 obtain ⟨F,FD,g,l,d,h1,h2,h3,h4,h5⟩:=h.ex
 rcases h5 b hb with h|h
 ·exact h1.fs.log.lt b h
 ·exact h1.fs.disk.lt b h
theorem FSt.rep (h:FSt w0 s p n i N M O wi): ∃V,Rep N V M:=by
 obtain ⟨F,FD,g,l,d,h1,h2,h3,h4⟩:=h.ex
 exact ⟨_,h3 ▸ h1.rep⟩
theorem chg_st {F FD:Nat→Prop} {g:Nat} {l:Lg} {d:Dsk} (h:FSt w0 s p n i N M O wi) (hS:SAt wi F FD s g p l d M) (hI:FInv n i l d M) (hN:l.homes d=N) (hO: ∀b,F b∨FD b→O b) (hO': ∀b,O b→F b∨FD b) (hi:i≤800) {no:Nat→Prop} {yes:Sm→Prop} {ret:Nat→Ending} {e:Ending} (hr:ChgR wi F FD s g p l d no yes ret e w') (hv: ∀M',yes M'→ ∀j,(M'.N j).ver≤i+2):
  ∃O',FTo wi O w' O'∧((∃c,c≠0∧no c∧e=ret c∧FSt w0 s p n i N M O' w')∨ ∃M',yes M'∧e=ret 0∧FSt w0 s p n (i+2) N M' O' w'):=by
 rcases hr with ⟨c,h1,h2,h3,h4⟩|⟨H,M',h1,h2,h3,h4,h5,F',FD',h6,h7,h8,h9⟩
 ·exact ⟨O,FTo.of_below O h4, .inl ⟨c,h1,h2,h3,h.below h4⟩⟩
 ·obtain ⟨l',d',p1,p2,p3⟩:=hI.put hi h1 h2 h3 (hv M' h4)
  rw [p1] at h5 h6
  have hnew: ∀b,F' b∨FD' b→O b∨wi.heap.size≤b:=fun b hb=>by
   rcases hb with hb|hb
   ·exact (h8 b hb).imp (fun e=>hO b (.inl e)) id
   ·exact (h9 b hb).imp (fun e=>hO b (.inr e)) id
  refine ⟨fun b=>F' b∨FD' b,⟨h7.mono fun x _ hx=>hO x hx,hnew⟩, .inr ⟨M',h4,h5,⟨⟨F',FD',g,l',d',⟨h6,p2.ok (by omega),p2.rep⟩,p2,p3.trans hN,fun b hb=>hb,fun b hb=>hb⟩,fun b hb=> ?_,h.s,h.w.trans (h7.below h.w.size fun x hx hx'=>absurd hx (Nat.not_lt.2 (h.lo x (hO x hx'))))⟩⟩⟩
  rcases hnew b hb with e|e
  ·exact h.lo b e
  ·exact Nat.le_trans h.w.size e
theorem FSt.create (h:FSt w0 s p n i N M O wi) (hi:i≤800) (f:Int×Int) (t:ByteArray) (kind:Int):Calls Tryz.prog 33 #[.pointer (some ⟨s,0,none⟩), .agg #[.int .i64 f.1, .int .i64 f.2], .string t, .int .i64 kind] wi
  fun e w'=> ∃O',FTo wi O w' O'∧((∃c,c≠0∧CreateNo M N f t kind c∧e=retC 0 0 c∧FSt w0 s p n i N M O' w')∨ ∃j gn M',CreateYes M f t kind j gn M'∧e=retC j gn 0∧FSt w0 s p n (i+2) N M' O' w'):=by
 obtain ⟨F,FD,g,l,d,h1,h2,h3,h4,h5⟩:=h.ex
 refine (fcreate_any h1 (by rw [h2.Q];decide) (h2.chk (by omega)) (h2.vers (by omega)) f t kind).mono ?_
 rintro e w' ⟨j,gn,hr⟩
 obtain ⟨O',ho,hc⟩:=chg_st h h1 h2 h3 h4 h5 hi hr (fun M' hy k=>by
  obtain ⟨R, -,hN⟩:=hy.N
  rw [hN]
  by_cases hk:k=j
  ·rw [hk,Fm.upd_at]
   show 1≤i+2
   omega
  ·rw [Fm.upd_ne _ _ hk]
   by_cases hk2:k=(M.of f 1).1
   ·rw [hk2,Fm.upd_at]
    show (M.N (M.of f 1).1).ver+1≤i+2
    have:=h2.ver (M.of f 1).1
    omega
   ·rw [Fm.upd_ne _ _ hk2]
    have:=h2.ver k
    omega)
 refine ⟨O',ho,?_⟩
 rcases hc with ⟨c,c1,c2,c3,c4⟩|⟨M',c1,c2,c3⟩
 ·refine .inl ⟨c,c1,h3 ▸ c2,?_,c4⟩
  rw [c3,retC_no c1,retC_no c1]
 ·exact .inr ⟨j,gn,M',c1,c2,c3⟩
theorem FSt.write (h:FSt w0 s p n i N M O wi) (hi:i≤800) (f:Int×Int) (k:Int) (t:ByteArray):Calls Tryz.prog 28 #[.pointer (some ⟨s,0,none⟩), .agg #[.int .i64 f.1, .int .i64 f.2], .int .i64 k, .string t] wi
  fun e w'=> ∃O',FTo wi O w' O'∧((∃c,c≠0∧WriteNo M N f k t c∧e=retT 0 c∧FSt w0 s p n i N M O' w')∨ ∃v M',WriteYes M f k t v M'∧e=retT v 0∧FSt w0 s p n (i+2) N M' O' w'):=by
 obtain ⟨F,FD,g,l,d,h1,h2,h3,h4,h5⟩:=h.ex
 refine (fwriteB_any h1 (by rw [h2.Q];decide) (h2.chk (by omega)) (h2.vers (by omega)) f k t).mono ?_
 rintro e w' ⟨v,hr⟩
 obtain ⟨O',ho,hc⟩:=chg_st h h1 h2 h3 h4 h5 hi hr (fun M' hy a=>by
  rw [hy.N]
  by_cases ha:a=(M.of f 2).1
  ·rw [ha,Fm.upd_at]
   show (M.N (M.of f 2).1).ver+1≤i+2
   have:=h2.ver (M.of f 2).1
   omega
  ·rw [Fm.upd_ne _ _ ha]
   have:=h2.ver a
   omega)
 refine ⟨O',ho,?_⟩
 rcases hc with ⟨c,c1,c2,c3,c4⟩|⟨M',c1,c2,c3⟩
 ·refine .inl ⟨c,c1,h3 ▸ c2,?_,c4⟩
  rw [c3,retT_no c1,retT_no c1]
 ·exact .inr ⟨v,M',c1,c2,c3⟩
theorem FSt.truncate (h:FSt w0 s p n i N M O wi) (hi:i≤800) (f:Int×Int):Calls Tryz.prog 34 #[.pointer (some ⟨s,0,none⟩), .agg #[.int .i64 f.1, .int .i64 f.2]] wi
  fun e w'=> ∃O',FTo wi O w' O'∧((∃c,c≠0∧c=(M.of f 2).2∧e=retT 0 c∧FSt w0 s p n i N M O' w')∨ ∃v M',TruncYes M f v M'∧e=retT v 0∧FSt w0 s p n (i+2) N M' O' w'):=by
 obtain ⟨F,FD,g,l,d,h1,h2,h3,h4,h5⟩:=h.ex
 refine (ftruncate_any h1 (by rw [h2.Q];decide) (h2.chk (by omega)) (h2.vers (by omega)) f).mono ?_
 rintro e w' ⟨v,hr⟩
 obtain ⟨O',ho,hc⟩:=chg_st h h1 h2 h3 h4 h5 hi hr (fun M' hy a=>by
  rw [hy.N]
  by_cases ha:a=(M.of f 2).1
  ·rw [ha,Fm.upd_at]
   show (M.N (M.of f 2).1).ver+1≤i+2
   have:=h2.ver (M.of f 2).1
   omega
  ·rw [Fm.upd_ne _ _ ha]
   have:=h2.ver a
   omega)
 refine ⟨O',ho,?_⟩
 rcases hc with ⟨c,c1,c2,c3,c4⟩|⟨M',c1,c2,c3⟩
 ·refine .inl ⟨c,c1,c2,?_,c4⟩
  rw [c3,retT_no c1,retT_no c1]
 ·exact .inr ⟨v,M',c1,c2,c3⟩
theorem FSt.read (h:FSt w0 s p n i N M O wi) (f:Int×Int) (k:Int):Calls Tryz.prog 27 #[.pointer (some ⟨s,0,none⟩), .agg #[.int .i64 f.1, .int .i64 f.2], .int .i64 k] wi
  fun e w'=>(∃t v c,e= .returned (.tuple #[.string t, .int .u64 (v:Nat), .int .i64 (c:Nat)])∧ReadC M f k t v c)∧Below wi.heap.size wi w':=by
 obtain ⟨F,FD,g,l,d,h1,h2,h3,h4⟩:=h.ex
 exact freadB_any h1 f k
end
section
variable {w w':World} {FD:Nat→Prop} {p:Nat}
theorem fnew_any {w0:World} {size n:Nat} (hd:DAt w FD p (newD size)) (hw:Below w0.heap.size w0 w) (hFD: ∀b,FD b→w0.heap.size≤b) (h20:20≤n) (h48:n+48≤size) (h1024:size≤n+1026) (hs:size≤4096):Calls Tryz.prog 12 #[.pointer (some ⟨p,0,none⟩), .int .i64 n] w
  fun e w'=> ∃s O,e= .returned (.tuple #[.pointer (some ⟨s,0,none⟩), .int .i64 0])∧FSt w0 s p n 2 (size-2-n) Sm.root O w'∧FTo w FD w' O:=by
 obtain ⟨l',d',k1,k2,k3,k4⟩:=fformat_inv h20 h48 h1024 hs
 have hL:(newD size).L.length=size:=by simp [newD]
 have hok:(log0 n 1 0 0).ok (newD size):=KInv.ok (.inl (kinit (n:=n) (size:=size) (by omega) (by omega) hs)) (by decide)
 have hh:(log0 n 1 0 0).homes (newD size)=size-2-n:=by
  unfold Lg.homes
  rw [hL]
  rfl
 have hz: ∀k,k<size-2-n→(log0 n 1 0 0).home (newD size) k=zeroS:=fun k hk=>by
  show (newD size).get (2+n+k)=zeroS
  exact newd_get (by omega)
 have hso:soundB l' d':=by
  refine ⟨k2.rep.taken.1,fun i hi=> ?_⟩
  have:=k2.rep.dec (j:=1+i) (by omega) (by omega)
  rw [show 1+(1+i)=2+i by omega] at this
  rw [this]
  simp
 refine (fopen_any hd n h20 (by rw [hL];omega) (by rw [hL];omega) (by omega) (by rw [newest_zero _ _ (by omega)];decide) (open_new (by omega) (by omega)) hok rfl (by simp [newD]) (Ino.free 0) (by rw [hz 2 (by omega)];exact zero_dec) l' d' (.inr ⟨rfl,by rw [hz 1 (by omega)];exact fun j _ _=>mapT_zero,k4,k1,k2.ok (by decide),k3⟩) hso).mono ?_
 rintro e w' ⟨s,g,F,FD',rfl,hF,hm,h1,h2,h3⟩
 have hnew: ∀b,F b∨FD' b→FD b∨w.heap.size≤b:=fun b hb=>by
  rcases hb with hb|hb
  ·exact .inr (h1 b hb)
  ·exact h2 b hb
 refine ⟨s,fun b=>F b∨FD' b,rfl,⟨⟨F,FD',g,l',d',⟨hF,k2.ok (by decide),k2.rep⟩,k2,k3.trans hh,fun b hb=>hb,fun b hb=>hb⟩,fun b hb=> ?_,Nat.le_trans hw.size h3,hw.trans (hm.below hw.size fun x hx hx'=>absurd hx (Nat.not_lt.2 (hFD x hx')))⟩,hm,hnew⟩
 rcases hnew b hb with e|e
 ·exact hFD b e
 ·exact Nat.le_trans hw.size e
theorem froot_any (w:World):Calls Tryz.prog 25 #[] w fun e w'=>e= .returned (.agg #[.int .i64 1, .int .i64 1])∧Below w.heap.size w w':=by
 obtain ⟨w1,hw1⟩: ∃w1,w.alloc (.cells #[.int .i64 0, .int .i64 0] 33)=w1:=⟨_,rfl⟩
 have hb1:Below w.heap.size w w1:=by rw [←hw1];exact (Below.refl _ _).alloc (Nat.le_refl _) _
 have hX1:w1.heap[w.heap.size]?=some (.cells #[.int .i64 0, .int .i64 0] 33 (0,0)):=by rw [←hw1];exact heap_alloc_at
 have hag:AggT Tryz.prog 33 (#[.int .i64 1, .int .i64 1]:Array Value).size:=aggFl 1 1
 have hone:(#[.int .i64 1, .int .i64 1]:Array Value).all (·.oneCell')=true:=oneF2 1 1
 have HB1:=Lib.hid hb1
 clear hb1
 go_enter Tryz.func25,Tryz.ntmps25
 go_upto_region 1 with fail
 simp only [hw1] at*
 clear hw1
 go_wp2_with (first
  | ((with_reducible refine wpList_storeB hag ?_ ?_ hX1 rfl hone ?_);rfl;rfl;(intro w9 hh9 hm9;have HH9:=Lib.hid hh9;have HM9:=Lib.hid hm9;clear hh9 hm9);go_frame)
  | fail)
 refine bodyPost_ret (results_cellA rfl _ rfl hag (lies_of HH9.out)) rfl ?_
 exact ⟨rfl,HB1.out.trans (HM9.out.below HB1.out.size fun y hy e=>by omega)⟩
end
end Go.Proofs.YtjdbbnhnbdocbaaGreat
