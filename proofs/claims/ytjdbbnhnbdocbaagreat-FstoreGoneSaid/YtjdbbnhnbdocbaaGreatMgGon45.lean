import Derived.Test.YtjdbbnhnbdocbaaGreatMgGon44
namespace Go.Proofs.YtjdbbnhnbdocbaaGreat
open Go.RowKit Go.Tn Go.Tn.Bt Go.Tn.Lp Go.Tn.Dk Go.Tn.Ino Go.Tn.Dr Go.Tn.Fm Go.Tn.Names
section
variable {w w':World} {F FD:Nat→Prop} {s g p:Nat} {l:Lg} {d:Dsk} {M:Sm}
set_option maxRecDepth 20000 in
set_option maxHeartbeats 16000000 in
theorem fmove_any (h:SAt w F FD s g p l d M) (hT:Tree M.N) (hQ:d.Q.length≤999900000) (hchk:(l.check d).2.2=0→(l.check d).1.ok (l.check d).2.1) (hv: ∀j,(M.N j).ver<1099511627775) {a b:Int×Int} {t u:ByteArray} {x y:Ent} (hA:RenAsk M a t b u x) (hs:¬ (a=b∧t=u)) (hr:¬ Reach M.N x.ino (M.of b 1).1)
  (hy:y=Ent.zero∧(∀z∈(M.N (M.of b 1).1).L,z.name≠u)∨y∈(M.N (M.of b 1).1).L∧y.name=u∧y.kind=x.kind∧(M.N y.ino).L= []) {v1 v2:Value} (hv1:LOut enEn 4 64 0 w v1 (M.N (M.of a 1).1).L) (hv2:LOut enEn 4 64 0 w v2 (M.N (M.of b 1).1).L):
  Calls Tryz.prog 99 #[.pointer (some ⟨s,0,none⟩), .agg #[.int .i64 a.1, .int .i64 a.2], .agg #[.int .i64 b.1, .int .i64 b.2],v1,v2, .agg (entC x), .agg (entC y), .string u] w
  fun e w'=>ChgR w F FD s g p l d (RenameNo M (l.homes d) a t b u) (RenameYes M a t b u) retE e w':=by
 obtain ⟨i,hi⟩: ∃i,(M.of a 1).1=i:=⟨_,rfl⟩
 obtain ⟨k,hk⟩: ∃k,(M.of b 1).1=k:=⟨_,rfl⟩
 have hoa:=of_0 hA.a0
 have hob:=of_0 hA.b0
 rw [hi] at hoa
 rw [hk] at hob
 obtain ⟨hi1,hi2,hae, -⟩:=there_some hoa.1
 obtain ⟨hk1,hk2,hbe, -⟩:=there_some hob.1
 rw [hi] at hv1
 rw [hk] at hv2 hy
 have hx:=hA.xin
 rw [hi] at hx
 have hxt:=hA.xt
 obtain ⟨w1,hw1⟩: ∃w1,w.alloc (.cells #[.int .i64 a.1, .int .i64 a.2] 33)=w1:=⟨_,rfl⟩
 have hb1:Below w.heap.size w w1:=by rw [←hw1];exact (Below.refl _ _).alloc (Nat.le_refl _) _
 have hX1:w1.heap[w.heap.size]?=some (.cells #[.int .i64 a.1, .int .i64 a.2] 33 (0,0)):=by rw [←hw1];exact heap_alloc_at
 have z1:w1.heap.size=w.heap.size+1:=by rw [←hw1];simp
 obtain ⟨w2,hw2⟩: ∃w2,w1.alloc (.cells #[.int .i64 b.1, .int .i64 b.2] 33)=w2:=⟨_,rfl⟩
 have hb2:Below w1.heap.size w1 w2:=by rw [←hw2];exact (Below.refl _ _).alloc (Nat.le_refl _) _
 have hX2:w2.heap[w1.heap.size]?=some (.cells #[.int .i64 b.1, .int .i64 b.2] 33 (0,0)):=by rw [←hw2];exact heap_alloc_at
 have z2:w2.heap.size=w.heap.size+2:=by rw [←hw2];simp [z1]
 obtain ⟨w3,hw3⟩: ∃w3,w2.alloc (.cells (entC x) 64)=w3:=⟨_,rfl⟩
 have hb3:Below w2.heap.size w2 w3:=by rw [←hw3];exact (Below.refl _ _).alloc (Nat.le_refl _) _
 have hX3:w3.heap[w2.heap.size]?=some (.cells (entC x) 64 (0,0)):=by rw [←hw3];exact heap_alloc_at
 have z3:w3.heap.size=w.heap.size+3:=by rw [←hw3];simp [z2]
 obtain ⟨w4,hw4⟩: ∃w4,w3.alloc (.cells (entC y) 64)=w4:=⟨_,rfl⟩
 have hb4:Below w3.heap.size w3 w4:=by rw [←hw4];exact (Below.refl _ _).alloc (Nat.le_refl _) _
 have hX4:w4.heap[w3.heap.size]?=some (.cells (entC y) 64 (0,0)):=by rw [←hw4];exact heap_alloc_at
 have z4:w4.heap.size=w.heap.size+4:=by rw [←hw4];simp [z3]
 have hb04:Below w.heap.size w w4:=((hb1.trans (hb2.mono (by omega))).trans (hb3.mono (by omega))).trans (hb4.mono (by omega))
 have hb24:Below w2.heap.size w2 w4:=hb3.trans (hb4.mono (by omega))
 have p1:w4.heap[w.heap.size]?=some (.cells #[.int .i64 a.1, .int .i64 a.2] 33 (0,0)):=by
  rw [hb24.block _ (by omega),hb2.block _ (by omega)]
  exact hX1
 have p2:w4.heap[w1.heap.size]?=some (.cells #[.int .i64 b.1, .int .i64 b.2] 33 (0,0)):=by
  rw [hb24.block _ (by omega)]
  exact hX2
 have p3:w4.heap[w2.heap.size]?=some (.cells (entC x) 64 (0,0)):=by
  rw [hb4.block _ (by omega)]
  exact hX3
 have q3:w4.cell? ⟨w2.heap.size,0,none⟩=some (.string x.name):=cell_of p3 rfl
 have hli:=list_ok h.rep.nd i
 have hlk:=list_ok h.rep.nd k
 have hdr:=edrop_any w4 v1 (M.N i).L ((hv1.sl elEn.len).below hb04) (by omega) x.name
 rw [hxt] at hdr q3
 have hv2':=hv2.below hb04
 have hv2l: ∀r,v2.ownBlock=some r→r<w.heap.size:=fun r hr=>hv2.lt hr
 obtain ⟨a1,c1,rfl, -⟩:=hv1.sl elEn.len
 obtain ⟨a2,c2,rfl, -⟩:=hv2.sl elEn.len
 have heq:=fun w=>eqFl w a b
 unfold flZ at heq
 have hab:a=b↔i=k:=by
  rw [hae,hbe]
  constructor
  ·intro e
   have:=(Prod.mk.inj e).1
   omega
  ·rintro rfl
   rfl
 have hagf:=aggFl a.1 a.2
 have hagb:=aggFl b.1 b.2
 have HH:=Lib.hid h
 have HT:=Lib.hid hT
 have HQ:=Lib.hid hQ
 have HCHK:=Lib.hid hchk
 have HV:=Lib.hid hv
 have HA:=Lib.hid hA
 have HS:=Lib.hid hs
 have HR:=Lib.hid hr
 have HY:=Lib.hid hy
 have HI:=Lib.hid hi
 have HK:=Lib.hid hk
 have HOA:=Lib.hid hoa
 have HOB:=Lib.hid hob
 have HIB:=Lib.hid (And.intro hi1 hi2)
 have HKB:=Lib.hid (And.intro hk1 hk2)
 have HAE:=Lib.hid hae
 have HBE:=Lib.hid hbe
 have HX:=Lib.hid hx
 have HXT:=Lib.hid hxt
 have HZ:=Lib.hid (And.intro z1 (And.intro z2 (And.intro z3 z4)))
 have HB4:=Lib.hid hb04
 have HP1:=Lib.hid p1
 have HP2:=Lib.hid p2
 have HP3:=Lib.hid p3
 have HP4:=Lib.hid hX4
 have HLI:=Lib.hid hli
 have HLK:=Lib.hid hlk
 have HAB:=Lib.hid hab
 have HV2:=Lib.hid hv2'
 obtain ⟨nk,hnk⟩: ∃n,(M.N k).L.length=n:=⟨_,rfl⟩
 obtain ⟨ni,hni⟩: ∃n,(M.N i).L.length=n:=⟨_,rfl⟩
 rw [hni,hnk]
 rw [hni] at hdr
 rw [hnk] at HV2 hv2l
 have HNK:=Lib.hid hnk
 have HV2L:=Lib.hid hv2l
 clear h hT hQ hchk hv hA hs hr hy hi hk hoa hob hi1 hi2 hk1 hk2 hae hbe hx hxt hb1 hX1 hb2 hX2 hb3 hX3 hb4 hX4 hb04 hb24 p1 p2 p3 hli hlk hab z1 z2 z3 z4 hv2' hv2l hv1 hv2 hni hnk
 go_enter Tryz.func99,Tryz.ntmps99
 go_upto_region 1 with fail
 simp only [hw1,hw2,hw3,hw4] at*
 clear hw1 hw2 hw3 hw4
 go_wp2_with fail
 refine hdr.mono ?_
 rintro e w5 ⟨v5,rfl,hO5,hb5⟩
 have HB5:=Lib.hid (HB4.out.trans (hb5.mono HB4.out.size))
 have HP1_5:=Lib.hid ((hb5.block _ (lt_of_block HP1.out)).trans HP1.out)
 have HP2_5:=Lib.hid ((hb5.block _ (lt_of_block HP2.out)).trans HP2.out)
 have HP3_5:=Lib.hid ((hb5.block _ (lt_of_block HP3.out)).trans HP3.out)
 have HP4_5:=Lib.hid ((hb5.block _ (lt_of_block HP4.out)).trans HP4.out)
 have HZ5:=Lib.hid hb5.size
 have hLa:=lies_of HP1_5.out
 have hLb:=lies_of HP2_5.out
 obtain ⟨a5,c5,rfl, -⟩:=id (hO5.sl elEn.len)
 have hO5l:=fun r hr=>hO5.lo r hr
 have HO5L:=Lib.hid hO5l
 have HO5:=Lib.hid (hO5.mono (Nat.zero_le _))
 have HV25:=Lib.hid (HV2.out.below hb5)
 obtain ⟨nf,hnf⟩: ∃n,((M.N i).L.filter (ne_ t)).length=n:=⟨_,rfl⟩
 rw [hnf] at HO5 HO5L ⊢
 have HNF:=Lib.hid hnf
 clear hdr hb5 hO5 hnf hO5l
 obtain ⟨qab,hqab⟩: ∃q,decide (a=b)=q:=⟨_,rfl⟩
 rw [hqab] at heq
 have HQAB:=Lib.hid hqab
 clear hqab
 go_upto_if 24 with (first
  | ((with_reducible refine wpList_loadA hagf hLa ?_ ?_);rfl;go_frame)
  | ((with_reducible refine wpList_loadA hagb hLb ?_ ?_);rfl;go_frame)
  | ((with_reducible refine wpList_exec rfl (exec_eqlS eqGFl heq ?_ ?_ _) ?_);rfl;rfl;go_frame)
  | fail)
 go_cut [4] (fun v wx=> ∃av cv,v= .slice av (renInto M a t b).length cv∧wx=w5∧LOut enEn 4 64 0 w5 v (renInto M a t b)∧ ∀r,v.ownBlock=some r→r≠w2.heap.size)
 case first=>
  cases qab with
  | true=>
   have hik:=of_decide_eq_true HQAB.out
   have hin:renInto M a t b=(M.N i).L.filter (ne_ t):=by
    unfold renInto renFrom
    rw [HI.out,HK.out,if_pos (HAB.out.1 hik)]
   have HIN:=Lib.hid hin
   clear hin hik
   go_wp2
   go_meet
   case rel=>exact ⟨a5,c5,by rw [HIN.out,HNF.out],rfl,by rw [HIN.out];exact HO5.out,fun r hr=>by have:=HO5L.out r hr;have:=HZ.out;omega⟩
  | false=>
   have hik:=of_decide_eq_false HQAB.out
   have hin:renInto M a t b=(M.N k).L:=by
    unfold renInto
    rw [HI.out,HK.out,if_neg (fun e=>hik (HAB.out.2 e))]
   have HIN:=Lib.hid hin
   clear hin hik
   go_wp2
   go_meet
   case rel=>exact ⟨a2,c2,by rw [HIN.out,HNK.out],rfl,by rw [HIN.out];exact HV25.out,fun r hr=>by have:=HV2L.out r hr;have:=HZ.out;omega⟩
 case rest=>
  obtain ⟨av,cv,rfl,hwx,hOv,hOl⟩:=hcut
  obtain rfl:=hwx.symm
  clear hwx hLa hLb
  have q3:w5.cell? ⟨w2.heap.size,0,none⟩=some (.string x.name):=cell_of HP3_5.out rfl
  have f3:w5.frozen? ⟨w2.heap.size,0,none⟩=false:=free_of HP3_5.out
  obtain ⟨ninto,hninto⟩: ∃n,(renInto M a t b).length=n:=⟨_,rfl⟩
  rw [hninto] at hOv hOl ⊢
  have HNI:=Lib.hid hninto
  have HOV:=Lib.hid hOv
  have HOL:=Lib.hid hOl
  clear hOv hOl hninto
  go_upto_region 5 with fail
  have hm6:=(Mod.refl (fun b=>b=w2.heap.size) w5).setCell ⟨w2.heap.size,0,none⟩ (.string u) (fun _=>rfl)
  have hX6:(w5.setCell ⟨w2.heap.size,0,none⟩ (.string u)).heap[w2.heap.size]?=some (.cells (entC ⟨u,x.ino,x.gen,x.kind⟩) 64 (0,0)):=by
   rw [heap_setCell_at HP3_5.out,entC_name]
  have hO6:=lout_mod HOV.out hm6 fun r hr e=>HOL.out r hr e
  have hF6:=lout_mod HO5.out hm6 fun r hr (e:r=w2.heap.size)=>by have:=HO5L.out r hr;have:=HZ.out;omega
  have hp1:=hm6.heap HP1_5.out (fun (e:_=w2.heap.size)=>by have:=HZ.out;omega)
  have hp2:=hm6.heap HP2_5.out (fun (e:_=w2.heap.size)=>by have:=HZ.out;omega)
  have hp4:=hm6.heap HP4_5.out (fun (e:_=w2.heap.size)=>by have:=HZ.out;omega)
  have hb6:Below w.heap.size w (w5.setCell ⟨w2.heap.size,0,none⟩ (.string u)):=HB5.out.trans (hm6.below HB5.out.size fun z hz (e:z=w2.heap.size)=>by have:=HZ.out;omega)
  have hri:Dr.Rise (renInto M a t b):=by
   unfold renInto renFrom
   split
   ·exact (rise_of (HH.out.rep.nd _)).filter _
   ·exact rise_of (HH.out.rep.nd _)
  have hle:(renInto M a t b).length≤24:=by
   unfold renInto renFrom
   split
   ·exact Nat.le_trans (ne_len _ _) (list_ok HH.out.rep.nd _).2
   ·exact (list_ok HH.out.rep.nd _).2
  have hiok: ∀e∈renInto M a t b,Ent.ok e:=by
   unfold renInto renFrom
   split
   ·exact fun e he=>(list_ok HH.out.rep.nd _).1 e (ne_mem.1 he).1
   ·exact (list_ok HH.out.rep.nd _).1
  have HP1_6:=Lib.hid hp1
  have HP2_6:=Lib.hid hp2
  have HP4_6:=Lib.hid hp4
  have HF6:=Lib.hid hF6
  have HB6:=Lib.hid hb6
  have HIOK:=Lib.hid hiok
  have hL6:=lies_of hX6
  have hagx:=aggEn ⟨u,x.ino,x.gen,x.kind⟩
  have hz6:=hm6.size
  have HZ6:=Lib.hid hz6
  generalize w5.setCell ⟨w2.heap.size,0,none⟩ (.string u)=w6 at*
  have hpu:=eputE_any w6 _ (renInto M a t b) (hO6.sl elEn.len) hri (by omega) ⟨u,x.ino,x.gen,x.kind⟩
  clear hm6 hX6 hO6 hF6 hp1 hp2 hp4 hb6 hri hle hiok q3 f3 hz6
  go_wp2_with (first
   | ((with_reducible refine wpList_loadA hagx hL6 ?_ ?_);rfl;go_frame)
   | fail)
  refine hpu.mono ?_
  rintro e w7 ⟨v7,R,rfl,hO7,hPR,hb7⟩
  obtain ⟨a7,c7,rfl, -⟩:=id (hO7.sl elEn.len)
  have HB7:=Lib.hid (HB6.out.trans (hb7.mono HB6.out.size))
  have HP1_7:=Lib.hid ((hb7.block _ (lt_of_block HP1_6.out)).trans HP1_6.out)
  have HP2_7:=Lib.hid ((hb7.block _ (lt_of_block HP2_6.out)).trans HP2_6.out)
  have HP4_7:=Lib.hid ((hb7.block _ (lt_of_block HP4_6.out)).trans HP4_6.out)
  have HF7:=Lib.hid (HF6.out.below hb7)
  have HO7:=Lib.hid (hO7.mono (Nat.zero_le _))
  have HPR:=Lib.hid hPR
  have HRL:=Lib.hid hPR.len
  obtain ⟨nr,hnr⟩: ∃n,R.length=n:=⟨_,rfl⟩
  rw [hnr] at HO7 ⊢
  have HNR:=Lib.hid hnr
  have hWas: ∃N0,RenWas M b u x N0:=by
   rcases HY.out with ⟨-,h1⟩|⟨h1,h2,h3,h4⟩
   ·exact ⟨M.N, .inl ⟨by rw [HK.out];exact h1,rfl⟩⟩
   ·exact ⟨_, .inr ⟨y,by rw [HK.out];exact h1,h2,h3,h4,rfl⟩⟩
  have HWAS:=Lib.hid hWas
  clear hpu hO7 hPR hb7 hnr hL6 hWas
  by_cases h24:24<nr
  ·have hd24:decide ((24:Int)<(nr:Int))=true:=decide_eq_true (by omega)
   have H24:=Lib.hid h24
   clear h24
   go_wp2
   go_ret
   obtain ⟨N0,hN0⟩:=HWAS.out
   exact .inl ⟨8,by decide, .many x N0 R HA.out HS.out HR.out hN0 HPR.out (by rw [HNR.out];exact H24.out),rfl,HB7.out⟩
  ·have hd24:decide ((24:Int)<(nr:Int))=false:=decide_eq_false (by omega)
   have H24:=Lib.hid (Nat.not_lt.1 h24)
   have H7:=Lib.hid (HH.out.below HB7.out)
   have hn46:=HH.out.rep.n1
   have hn1024:=HH.out.rep.n2
   have hch:=fchange_any H7.out.fs H7.out.ok (by omega) hn1024 HH.out.rep.taken.1
   rw [rep_T HH.out.rep] at hch
   clear h24
   go_wp2_with fail
   refine hch.mono ?_
   rintro e w8 ⟨cc,G,rfl,hC8,hb8,hG8⟩
   have HB8:=Lib.hid (hb8)
   have HC8:=Lib.hid hC8
   have HG8:=Lib.hid hG8
   have hLy:=lies_of ((hb8.block _ (lt_of_block HP4_7.out)).trans HP4_7.out)
   have hagy:=aggEn y
   have heq2:=fun w=>eqEn w y Ent.zero
   obtain ⟨qy,hqy⟩: ∃q,decide (y=Ent.zero)=q:=⟨_,rfl⟩
   rw [hqy] at heq2
   have HQY:=Lib.hid hqy
   clear hch hb8 hC8 hG8 hqy
   go_upto_if 38 with (first
    | ((with_reducible refine wpList_loadA hagy hLy ?_ ?_);rfl;go_frame)
    | ((with_reducible refine wpList_exec rfl (exec_buildA (vals:= []) ?_ built_z) ?_);rfl;go_frame)
    | ((with_reducible refine wpList_exec rfl (exec_neqS eqGEn heq2 ?_ ?_ _) ?_);rfl;rfl;go_frame)
    | fail)
   go_cut [17] (fun v wx=>v= .pointer (some ⟨cc,0,none⟩)∧ ∃N0 P0 T0 H0 m0 G,Mv0 w7 s cc (l.homes d) (l.home d) M b u x i k N0 P0 T0 H0 m0 G wx)
   case first=>
    rcases HY.out with ⟨rfl,hno⟩|⟨hyk,hyu,hykd,hy0⟩
    ·obtain rfl:qy=true:=by rw [←HQY.out];exact decide_eq_true rfl
     have HNO:=Lib.hid hno
     clear hno
     go_wp2
     go_meet
     case rel=>exact ⟨rfl,M.N,M.P,_,_,0,G,HC8.out,Chs.start HH.out.rep,HB8.out,HG8.out, .inl ⟨by rw [HK.out];exact HNO.out,rfl⟩,Nat.zero_le _,⟨rfl,rfl⟩,⟨rfl,rfl⟩⟩
    ·have hye:=HT.out.ent k y hyk
     have hyz:y≠Ent.zero:=fun e=>by rw [e] at hye;exact absurd hye.1 (by decide)
     obtain rfl:qy=false:=by rw [←HQY.out];exact decide_eq_false hyz
     have hap:=HA.out.apart HT.out HS.out (by rw [HK.out];exact hyk) hyu hy0
     rw [HI.out,HK.out] at hap
     have hG8w: ∀b,G b→w.heap.size≤b:=fun b hb=>Nat.le_trans HB7.out.size (HG8.out b hb)
     have hfr:=ffree_any (H7.out.below HB8.out) HC8.out (fun b hb hg=>absurd (HH.out.fs.log.lt b hb) (Nat.not_lt.2 (hG8w b hg))) (fun b hb hg=>absurd (HH.out.fs.disk.lt b hb) (Nat.not_lt.2 (hG8w b hg))) (fun hg=>absurd (lt_of_block HH.out.fs.blk) (Nat.not_lt.2 (hG8w s hg))) (of_ent HT.out hyk).1
     have hagy2:=aggFl (y.ino:Int) (y.gen:Int)
     have hLy2:=lies_file hLy
     have HAP:=Lib.hid hap
     have HYE:=Lib.hid (And.intro hye.1 hye.2.1)
     have HYU:=Lib.hid (And.intro hyk (And.intro hyu (And.intro hykd hy0)))
     clear hyk hyu hykd hy0 hye hyz hap hG8w
     go_wp2_with (first
      | ((with_reducible refine wpList_loadA hagy2 hLy2 ?_ ?_);rfl;go_frame)
      | fail)
     refine hfr.mono ?_
     rintro e w9 ⟨rfl,G9,T9,H9,bl9,hET,hC9,hm9,hG9⟩
     have hgw: ∀b,G9 b→w7.heap.size≤b:=fun b hb=>(hG9 b hb).elim (HG8.out b) fun h=>Nat.le_trans HB8.out.size h
     have hb79:Below w7.heap.size w7 w9:=HB8.out.trans (hm9.below HB8.out.size fun b hb hg=>absurd hb (Nat.not_lt.2 (HG8.out b hg)))
     have HM:=Lib.hid (Mv0.mk (b:=b) (u:=u) (x:=x) (i:=i) (k:=k) hC9 ((Chs.start HH.out.rep).free HH.out.rep.n1 ⟨Nat.le_trans (by decide) HYE.out.1,HYE.out.2⟩ hET) hb79 hgw (.inr ⟨y,by rw [HK.out];exact HYU.out.1,HYU.out.2.1,HYU.out.2.2.1,HYU.out.2.2.2,rfl⟩) (Nat.le_refl _) ⟨Fm.upd_ne _ _ (fun e=>HAP.out.1 e.symm),Fm.upd_ne _ _ (fun e=>HAP.out.1 e.symm)⟩ ⟨Fm.upd_ne _ _ (fun e=>HAP.out.2.1 e.symm),Fm.upd_ne _ _ (fun e=>HAP.out.2.1 e.symm)⟩)
     clear hfr hET hC9 hm9 hG9 hgw hb79 hLy hLy2
     go_wp2
     go_meet
     case rel=>exact ⟨rfl,_,_,_,_,_,G9,HM.out⟩
   case rest=>
    obtain ⟨rfl,N0,P0,T0,H0,m0,G0,hM0⟩:=hcut
    have HM0:=Lib.hid hM0
    have hLa:=lies_of ((hM0.bel.block _ (lt_of_block HP1_7.out)).trans HP1_7.out)
    have hLb:=lies_of ((hM0.bel.block _ (lt_of_block HP2_7.out)).trans HP2_7.out)
    clear hLy hagy heq2 HC8 HG8 HB8 hM0
    go_upto_if 45 with (first
     | ((with_reducible refine wpList_loadA hagf hLa ?_ ?_);rfl;go_frame)
     | ((with_reducible refine wpList_loadA hagb hLb ?_ ?_);rfl;go_frame)
     | ((with_reducible refine wpList_exec rfl (exec_neqS eqGFl heq ?_ ?_ _) ?_);rfl;rfl;go_frame)
     | fail)
    go_cut [17] (fun v wx=>v= .pointer (some ⟨cc,0,none⟩)∧ ∃N0 P1 T1 H1 G,Mv1 w7 s cc (l.homes d) (l.home d) M a t b u x k N0 P1 T1 H1 G wx)
    case first=>
     cases qab with
     | true=>
      have hik:=of_decide_eq_true HQAB.out
      have hn1:renN1 M a t b N0=N0:=by
       unfold renN1
       rw [HI.out,HK.out,if_pos (HAB.out.1 hik)]
      have HN1:=Lib.hid hn1
      clear hn1 hik
      go_wp2
      go_meet
      case rel=>exact ⟨rfl,N0,P0,T0,H0,G0,HM0.out.ch,by rw [HN1.out];exact HM0.out.chs.mono (by have:=HM0.out.few;omega),HM0.out.bel,HM0.out.lo,HM0.out.was,by rw [HN1.out];exact HM0.out.ek⟩
     | false=>
      have hik:=of_decide_eq_false HQAB.out
      have hik2:k≠i:=fun e=>hik (HAB.out.2 e.symm)
      have hn1:renN1 M a t b N0=Fm.upd N0 i {M.N i with L:=(M.N i).L.filter (ne_ t),ver:=(M.N i).ver+1}:=by
       unfold renN1 renFrom
       rw [HI.out,HK.out,if_neg (fun e=>hik2 e.symm)]
      have hg0: ∀b,G0 b→w7.heap.size≤b:=HM0.out.lo
      have hw7:=HB7.out.size
      have hFx:=HF7.out.below HM0.out.bel
      have hse:=fsetentries_any ((HH.out.below HB7.out).below HM0.out.bel) HM0.out.ch (fun b hb hg=>absurd (Nat.lt_of_lt_of_le (HH.out.fs.log.lt b hb) hw7) (Nat.not_lt.2 (hg0 b hg))) (fun b hb hg=>absurd (Nat.lt_of_lt_of_le (HH.out.fs.disk.lt b hb) hw7) (Nat.not_lt.2 (hg0 b hg))) (fun hg=>absurd (Nat.lt_of_lt_of_le (lt_of_block HH.out.fs.blk) hw7) (Nat.not_lt.2 (hg0 s hg))) (by omega) HA.out.a0 (HV.out _) (hFx.sl elEn.len) (fun r hr hg=>absurd (HF7.out.lt hr) (Nat.not_lt.2 (hg0 r hg))) (fun e he=>HLI.out.1 e (ne_mem.1 he).1) ((rise_of (HH.out.rep.nd i)).filter _) (Nat.le_trans (ne_len _ _) HLI.out.2)
      rw [HI.out] at hse
      have HN1:=Lib.hid hn1
      have HIK:=Lib.hid hik2
      have HG0:=Lib.hid hg0
      clear hn1 hik hik2 hg0 hw7 hFx
      go_wp2_with (first
       | ((with_reducible refine wpList_loadA hagf hLa ?_ ?_);rfl;go_frame)
       | fail)
      refine hse.mono ?_
      rintro e w10 ⟨rfl,G10,T10,H10,e10,bl10,hST,hC10,hm10,hG10⟩
      obtain ⟨rfl,hcs⟩:=HM0.out.chs.less HH.out.rep HIB.out HOA.out.2 HM0.out.ei.1 HM0.out.ei.2 (HV.out i) hST
      have HM1:=Lib.hid (Mv1.mk (w6:=w7) (a:=a) (t:=t) (b:=b) (u:=u) (x:=x) (k:=k) (N0:=N0) hC10 (by rw [HN1.out];exact hcs.mono (by have:=HM0.out.few;omega)) (HM0.out.bel.trans (hm10.below HM0.out.bel.size fun b hb hg=>absurd hb (Nat.not_lt.2 (HG0.out b hg)))) (fun b hb=>(hG10 b hb).elim (HG0.out b) fun h=>Nat.le_trans HM0.out.bel.size h) HM0.out.was ⟨by rw [HN1.out,Fm.upd_ne _ _ HIK.out];exact HM0.out.ek.1,by rw [Fm.upd_ne _ _ HIK.out];exact HM0.out.ek.2⟩)
      clear hse hST hC10 hm10 hG10 hcs hLa hLb
      go_wp2
      go_meet
      case rel=>exact ⟨rfl,N0,_,_,_,G10,HM1.out⟩
    case rest=>
     clear HM0 hLa hLb N0 P0 T0 H0 m0 G0
     obtain ⟨rfl,N0,P1,T1,H1,G1,hM1⟩:=hcut
     have HM1:=Lib.hid hM1
     have hLb:=lies_of ((hM1.bel.block _ (lt_of_block HP2_7.out)).trans HP2_7.out)
     have hg1: ∀b,G1 b→w7.heap.size≤b:=hM1.lo
     have hw7:=HB7.out.size
     have hOx:=HO7.out.below hM1.bel
     have hRok: ∀e∈R,Ent.ok e:=fun e he=>by
      rcases (HPR.out.mem e).1 he with rfl|⟨he, -⟩
      ·have h1:=HT.out.ent i x HX.out
       have h2:=HLI.out.1 x HX.out
       exact ⟨HA.out.name.2,h2.i1,h2.i40,h2.gen,h2.kind⟩
      ·exact HIOK.out e he
     have hse:=fsetentries_any ((HH.out.below HB7.out).below hM1.bel) hM1.ch (fun b hb hg=>absurd (Nat.lt_of_lt_of_le (HH.out.fs.log.lt b hb) hw7) (Nat.not_lt.2 (hg1 b hg))) (fun b hb hg=>absurd (Nat.lt_of_lt_of_le (HH.out.fs.disk.lt b hb) hw7) (Nat.not_lt.2 (hg1 b hg))) (fun hg=>absurd (Nat.lt_of_lt_of_le (lt_of_block HH.out.fs.blk) hw7) (Nat.not_lt.2 (hg1 s hg))) (by omega) HA.out.b0 (HV.out _) (hOx.sl elEn.len) (fun r hr hg=>absurd (HO7.out.lt hr) (Nat.not_lt.2 (hg1 r hg))) hRok HPR.out.rise (by rw [HNR.out];exact H24.out)
     rw [HK.out] at hse
     have HG1:=Lib.hid hg1
     have HROK:=Lib.hid hRok
     clear hM1 hg1 hw7 hOx hRok
     go_wp2_with (first
      | ((with_reducible refine wpList_loadA hagb hLb ?_ ?_);rfl;go_frame)
      | fail)
     refine hse.mono ?_
     rintro e w10 ⟨rfl,G10,T10,H10,e10,bl10,hST,hC10,hm10,hG10⟩
     have hb710:Below w7.heap.size w7 w10:=HM1.out.bel.trans (hm10.below HM1.out.bel.size fun b hb hg=>absurd hb (Nat.not_lt.2 (HG1.out b hg)))
     have hb10:=HB7.out.trans (hb710.mono HB7.out.size)
     have hG10w: ∀b,G10 b→w.heap.size≤b:=fun b hb=>Nat.le_trans HB7.out.size ((hG10 b hb).elim (HG1.out b) fun h=>Nat.le_trans HM1.out.bel.size h)
     have hm0:Mod G10 w w10:=mod_of_new hb10
     have hkk:=HM1.out.ek
     have hdi:=HM1.out.chs.dir (L:=R) HH.out.rep.n1 HKB.out (by rw [hkk.1];exact HOB.out.2) HROK.out HPR.out.rise (by rw [HNR.out];exact H24.out) (by rw [hkk.1];exact HV.out k) (by rw [hkk.2];exact hST)
     rw [hkk.1] at hdi
     have HM0:=Lib.hid hm0
     have HGW:=Lib.hid hG10w
     have HB10:=Lib.hid hb10
     clear hse hST hm10 hG10 hb710 hb10 hG10w hm0 hkk hLb
     rcases hdi with ⟨rfl,hcs⟩|⟨rfl,hst⟩
     ·have hrep:=hcs.end_ HH.out.rep
      have hck:=hcs.ck.mono (show 7+6≤14 by decide)
      have hco:=fcommitR HH.out HM0.out HGW.out hC10 hck HQ.out HCHK.out
      obtain ⟨PH,hPH⟩: ∃PH,putH (putH H10 (1+k) (Ino.sec ⟨1,(M.N k).gen,(M.N k).ver+1,bl10⟩)) 1 (mapSec T10)=PH:=⟨_,rfl⟩
      have hck15:ChOk (l.homes d) PH 15:=by
       rw [←hPH]
       exact hck.put (by omega) (mapSec_sec T10)
      have hP1: ∃k b,PH k=some b:=⟨1,mapSec T10,by rw [←hPH];exact if_pos rfl⟩
      rw [hPH] at hco hrep
      obtain ⟨M',hM'⟩: ∃M':Sm,Sm.mk (Fm.upd (renN1 M a t b N0) k {M.N k with L:=R,ver:=(M.N k).ver+1}) (Fm.upd P1 k bl10) M.rcd=M':=⟨_,rfl⟩
      have hyes:RenameYes M a t b u M':=⟨⟨x,N0,R,HA.out,HS.out,HR.out,HM1.out.was,HPR.out,by rw [HNR.out];exact H24.out,by rw [HK.out, ←hM']⟩,by rw [←hM']⟩
      rw [hM'] at hrep
      have HREP:=Lib.hid hrep
      have HYES:=Lib.hid hyes
      have HCK15:=Lib.hid hck15
      have HPP:=Lib.hid hP1
      clear hC10 hcs hrep hck hck15 hP1 hyes hPH hM'
      go_wp2_with fail
      refine hco.mono ?_
      rintro e w12 ⟨rfl,F12,FD12,hF12,hm12,hF12a,hF12b⟩
      have HP12:Hid (FPostG w10 F FD G10 s g p (stPut l d (putsOf l d PH)) (.returned (.int .i64 ((stPut l d (putsOf l d PH)).2.2:Nat))) w12):=Lib.hid ⟨rfl,F12,FD12,hF12,hm12,hF12a,hF12b⟩
      have HPST:=Lib.hid (Pst.of_post HH.out HM0.out HGW.out HP12.out (Mod.refl (fun _=>False) w12) fun r h=>h.elim)
      clear hco hF12 hm12 hF12a hF12b HP12
      go_wp2
      go_ret
      exact .inr ⟨PH,M',HCK15.out,HPP.out,HREP.out,HYES.out,rfl,HPST.out⟩
     ·have hco:=fcommit_bad hC10 (by decide)
      rw [show ((8:Nat):Int)=8 from rfl] at hco
      have HST:=Lib.hid hst
      clear hC10 hst
      go_wp2_with fail
      refine hco.mono ?_
      rintro e w12 ⟨rfl,hw⟩
      obtain rfl:=hw.symm
      clear hw hco
      go_wp2
      go_ret
      exact .inl ⟨8,by decide, .full x N0 R HA.out HS.out HR.out HM1.out.was HPR.out (by rw [HNR.out];exact H24.out) (by rw [HK.out];exact HST.out),rfl,HB10.out⟩
end
end Go.Proofs.YtjdbbnhnbdocbaaGreat
