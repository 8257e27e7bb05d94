import Derived.Test.YtjdbbnhnbdocbaaGreatMgGon45
import Derived.Test.YtjdbbnhnbdocbaaGreatMgGon42
namespace Go.Proofs.YtjdbbnhnbdocbaaGreat
open Go.RowKit Go.Tn Go.Tn.Bt Go.Tn.Lp Go.Tn.Dk Go.Tn.Ino Go.Tn.Dr Go.Tn.Fm Go.Tn.Names
section
variable {w w':World} {F FD:Nat→Prop} {s g p:Nat} {l:Lg} {d:Dsk} {M:Sm}
theorem ChgR.before {w0:World} {no:Nat→Prop} {yes:Sm→Prop} {ret:Nat→Ending} {e:Ending} (hb:Below w0.heap.size w0 w) (hF: ∀b,F b∨FD b→b<w0.heap.size) (h:ChgR w F FD s g p l d no yes ret e w'):ChgR w0 F FD s g p l d no yes ret e w':=by
 rcases h with ⟨c,h1,h2,h3,h4⟩|⟨H,M',h1,h2,h3,h4,h5,h6⟩
 ·exact .inl ⟨c,h1,h2,h3,hb.trans (h4.mono hb.size)⟩
 ·exact .inr ⟨H,M',h1,h2,h3,h4,h5,h6.before hb hF⟩
theorem ChgR.code {no:Nat→Prop} {yes:Sm→Prop} {e:Ending} (h:ChgR w F FD s g p l d no yes retE e w'): ∃c:Nat,e= .returned (.int .i64 (c:Nat)):=by
 rcases h with ⟨c, -, -,h3, -⟩|⟨H,M', -, -, -, -,h5, -⟩
 ·exact ⟨c,h3⟩
 ·exact ⟨_,h5⟩
theorem reach_file (hT:Tree M.N) {x k:Nat} (hx:(M.N x).kind=2) (hk:(M.N k).kind=1):¬ Reach M.N x k:=fun h=>by
 cases h with
 | z=>omega
 | s hz _=>
  have:=hT.dir _ _ hz
  omega
def RenSame (M:Sm) (a:Int×Int) (t:ByteArray) (b:Int×Int) (u:ByteArray):Prop:= ∃x,RenAsk M a t b u x∧a=b∧t=u
theorem str_eq (t u:ByteArray):(t.toList==u.toList)=decide (t=u):=by
 rw [Bool.eq_iff_iff,beq_iff_eq,decide_eq_true_iff,bs_eq,bs_eq]
 exact ⟨bsz_ext,fun e=>by rw [e]⟩
set_option maxRecDepth 20000 in
set_option maxHeartbeats 16000000 in
theorem frename_any (h:SAt w F FD s g p l d M) (hT:Tree M.N) (hQ:d.Q.length≤999900000) (hchk:(l.check d).2.2=0→(l.check d).1.ok (l.check d).2.1) (hv: ∀j,(M.N j).ver<1099511627775) (a b:Int×Int) (t u:ByteArray):
  Calls Tryz.prog 36 #[.pointer (some ⟨s,0,none⟩), .agg #[.int .i64 a.1, .int .i64 a.2], .string t, .agg #[.int .i64 b.1, .int .i64 b.2], .string u] w
  fun e w'=>ChgR w F FD s g p l d (RenameNo M (l.homes d) a t b u) (RenameYes M a t b u) retE e w'∨RenSame M a t b u∧e=retE 0∧Below w.heap.size w w':=by
 obtain ⟨w1,hw1⟩: ∃w1,w.alloc (.cells #[.int .i64 a.1, .int .i64 a.2] 33)=w1:=⟨_,rfl⟩
 have hb1:Below w.heap.size w w1:=by rw [←hw1];exact (Below.refl _ _).alloc (Nat.le_refl _) _
 have hX1:w1.heap[w.heap.size]?=some (.cells #[.int .i64 a.1, .int .i64 a.2] 33 (0,0)):=by rw [←hw1];exact heap_alloc_at
 obtain ⟨w2,hw2⟩: ∃w2,w1.alloc (.cells #[.int .i64 b.1, .int .i64 b.2] 33)=w2:=⟨_,rfl⟩
 have hb2:Below w1.heap.size w1 w2:=by rw [←hw2];exact (Below.refl _ _).alloc (Nat.le_refl _) _
 have hX2:w2.heap[w1.heap.size]?=some (.cells #[.int .i64 b.1, .int .i64 b.2] 33 (0,0)):=by rw [←hw2];exact heap_alloc_at
 have hb12:=hb1.trans (hb2.mono hb1.size)
 have hp1:=(hb2.block _ (lt_of_block hX1)).trans hX1
 have h2:=h.below hb12
 have hokc:=fsok_any h2.fs
 have hck:=ncheck_any w2 t
 have hagf:=aggFl a.1 a.2
 have hagb:=aggFl b.1 b.2
 have heq:=fun w=>eqFl w a b
 unfold flZ at heq
 have HB2:=Lib.hid hb12
 have HP2:=Lib.hid hp1
 have HR2:=Lib.hid hX2
 have HH:=Lib.hid h
 have HQ:=Lib.hid hQ
 have HCHK:=Lib.hid hchk
 have HV:=Lib.hid hv
 have HT:=Lib.hid hT
 clear h hb1 hX1 hb2 hX2 hb12 hp1 h2 hQ hchk hv hT
 go_enter Tryz.func36,Tryz.ntmps36
 go_upto_region 1 with fail
 simp only [hw1,hw2] at*
 clear hw1 hw2
 go_upto_region 3 with (first
  | (go_at_call 71;refine hokc.mono ?_;rintro e wt ⟨rfl,hw⟩;obtain rfl:=hw.symm;clear hw)
  | fail)
 go_wp2_with fail
 refine hck.mono ?_
 rintro e w3 ⟨rfl,hb3⟩
 have hck2:=ncheck_any w3 u
 have HB3:=Lib.hid (HB2.out.trans (hb3.mono HB2.out.size))
 have HP3:=Lib.hid ((hb3.block _ (lt_of_block HP2.out)).trans HP2.out)
 have HR3:=Lib.hid ((hb3.block _ (lt_of_block HR2.out)).trans HR2.out)
 clear hokc hck hb3
 cases hn:isName (bs t) with
 | false=>
  rw [errOf_no hn]
  go_wp2
  go_ret
  exact .inl (.inl ⟨9,by decide, .name (.inl hn),rfl,HB3.out⟩)
 | true=>
  rw [errOf_yes hn]
  have HN:=Lib.hid hn
  clear hn
  go_wp2_with fail
  refine hck2.mono ?_
  rintro e w4 ⟨rfl,hb4⟩
  have HB4:=Lib.hid (HB3.out.trans (hb4.mono HB3.out.size))
  have HP4:=Lib.hid ((hb4.block _ (lt_of_block HP3.out)).trans HP3.out)
  have HR4:=Lib.hid ((hb4.block _ (lt_of_block HR3.out)).trans HR3.out)
  clear hck2 hb4
  cases hm:isName (bs u) with
  | false=>
   rw [errOf_no hm]
   go_wp2
   go_ret
   exact .inl (.inl ⟨9,by decide, .name (.inr hm),rfl,HB4.out⟩)
  | true=>
   rw [errOf_yes hm]
   have HM:=Lib.hid hm
   have hkn:=fkind_any (HH.out.below HB4.out) a 1 (by decide)
   simp only [show ((1:Nat):Int)=1 from rfl] at hkn
   have hLa4:=lies_of HP4.out
   clear hm
   go_wp2_with (first
    | ((with_reducible refine wpList_loadA hagf hLa4 ?_ ?_);rfl;go_frame)
    | fail)
   refine hkn.mono ?_
   rintro e w5 ⟨⟨xi,hx8, -,rfl⟩,hb5⟩
   have hagi:=aggI hx8
   have honei:=inoC_one xi
   have hszi:=inoC_size hx8
   obtain ⟨w6,hw6⟩: ∃w6,w5.alloc (.cells (inoC xi) 52)=w6:=⟨_,rfl⟩
   have hb6:Below w5.heap.size w5 w6:=by rw [←hw6];exact (Below.refl _ _).alloc (Nat.le_refl _) _
   have hb46:=hb5.trans (hb6.mono hb5.size)
   have HB6:=Lib.hid (HB4.out.trans (hb46.mono HB4.out.size))
   have HP6:=Lib.hid ((hb46.block _ (lt_of_block HP4.out)).trans HP4.out)
   have HR6:=Lib.hid ((hb46.block _ (lt_of_block HR4.out)).trans HR4.out)
   clear hkn hb5 hb6 hb46 hLa4 hx8
   go_upto_region 6 with (first
    | ((with_reducible refine wpList_storeA_new hagi ?_ honei ?_ ?_ ?_);(rw [hszi];rfl);rfl;rfl;go_frame)
    | fail)
   simp only [hw6] at*
   clear hw6 hagi honei hszi
   by_cases ha0:(M.of a 1).2=0
   ·have HA0:=Lib.hid ha0
    rw [ha0]
    have hfb:=ffind_any (HH.out.below HB6.out) b u
    have hLb6:=lies_of HR6.out
    clear ha0
    go_wp2_with (first
     | ((with_reducible refine wpList_loadA hagb hLb6 ?_ ?_);rfl;go_frame)
     | fail)
    refine hfb.mono ?_
    rintro e w7 ⟨⟨v2,y,c,rfl,hO2,hC2⟩,hb7⟩
    obtain ⟨a2,c2,hv2, -⟩:=id (hO2.sl elEn.len)
    subst hv2
    have hagy:=aggEn y
    have honey:=oneEn y
    obtain ⟨w8,hw8⟩: ∃w8,w7.alloc (.cells (entC y) 64)=w8:=⟨_,rfl⟩
    have hb8:Below w7.heap.size w7 w8:=by rw [←hw8];exact (Below.refl _ _).alloc (Nat.le_refl _) _
    have hX8:w8.heap[w7.heap.size]?=some (.cells (entC y) 64 (0,0)):=by rw [←hw8];exact heap_alloc_at
    have hb68:=hb7.trans (hb8.mono hb7.size)
    have HB8:=Lib.hid (HB6.out.trans (hb68.mono HB6.out.size))
    have HP8:=Lib.hid ((hb68.block _ (lt_of_block HP6.out)).trans HP6.out)
    have HR8:=Lib.hid ((hb68.block _ (lt_of_block HR6.out)).trans HR6.out)
    have HO8:=Lib.hid ((hO2.below hb8).mono (Nat.zero_le _))
    have HY8:=Lib.hid hX8
    clear hfb hO2 hb7 hb8 hX8 hb68 hLb6
    go_upto_region 9 with (first
     | ((with_reducible refine wpList_storeA_new hagy ?_ honey ?_ ?_ ?_);rfl;rfl;rfl;go_frame)
     | fail)
    simp only [hw8] at*
    clear hw8
    by_cases hb0:(M.of b 1).2=0
    ·have HB0:=Lib.hid hb0
     rw [if_pos hb0] at HO8 ⊢
     -- what is there
     have hC3:(c=0∧y∈(M.N (M.of b 1).1).L∧y.name=u)∨(c=11∧y=Ent.zero∧ ∀z∈(M.N (M.of b 1).1).L,z.name≠u):=by
      rcases hC2 with ⟨h1, -⟩|⟨-,h1⟩
      ·exact absurd hb0 h1
      ·exact h1
     obtain ⟨q,hq,hq2⟩: ∃q:Bool,((c:Int)==0)=q∧(q=true∧y∈(M.N (M.of b 1).1).L∧y.name=u∨q=false∧y=Ent.zero∧ ∀z∈(M.N (M.of b 1).1).L,z.name≠u):=by
      rcases hC3 with ⟨rfl,h1⟩|⟨rfl,h1⟩
      ·exact ⟨true,rfl, .inl ⟨rfl,h1⟩⟩
      ·exact ⟨false,rfl, .inr ⟨rfl,h1⟩⟩
     have HQ2:=Lib.hid hq2
     obtain ⟨nk,hnk⟩: ∃n,(M.N (M.of b 1).1).L.length=n:=⟨_,rfl⟩
     rw [hnk] at HO8 ⊢
     have hcc:c=0∨c=11:=by
      rcases hC3 with h1|h1
      ·exact .inl h1.1
      ·exact .inr h1.1
     clear hb0 hC2 hC3 hq2 hnk
     go_cut [53] (fun v wx=>v= .bool false∧wx=w8)
     case first=>
      rcases hcc with rfl|rfl
      ·go_wp2
       go_meet
       case rel=>exact ⟨rfl,rfl⟩
      ·go_wp2
       go_meet
       case rel=>exact ⟨rfl,rfl⟩
     case rest=>
     obtain ⟨rfl,hwx⟩:=hcut
     obtain rfl:=hwx.symm
     clear hwx hcc
     have hfa:=ffind_any (HH.out.below HB8.out) a t
     have hLa8:=lies_of HP8.out
     go_wp2_with (first
      | ((with_reducible refine wpList_loadA hagf hLa8 ?_ ?_);rfl;go_frame)
      | fail)
     refine hfa.mono ?_
     rintro e w9 ⟨⟨v1,x,c',rfl,hO1,hC1⟩,hb9⟩
     obtain ⟨a1,c1,hv1, -⟩:=id (hO1.sl elEn.len)
     subst hv1
     have hagx:=aggEn x
     have honex:=oneEn x
     obtain ⟨w10,hw10⟩: ∃w10,w9.alloc (.cells (entC x) 64)=w10:=⟨_,rfl⟩
     have hb10:Below w9.heap.size w9 w10:=by rw [←hw10];exact (Below.refl _ _).alloc (Nat.le_refl _) _
     have hX10:w10.heap[w9.heap.size]?=some (.cells (entC x) 64 (0,0)):=by rw [←hw10];exact heap_alloc_at
     have hb810:=hb9.trans (hb10.mono hb9.size)
     have HB10:=Lib.hid (HB8.out.trans (hb810.mono HB8.out.size))
     have HP10:=Lib.hid ((hb810.block _ (lt_of_block HP8.out)).trans HP8.out)
     have HR10:=Lib.hid ((hb810.block _ (lt_of_block HR8.out)).trans HR8.out)
     have HY10:=Lib.hid ((hb810.block _ (lt_of_block HY8.out)).trans HY8.out)
     have HO10:=Lib.hid (HO8.out.below hb810)
     have HF10:=Lib.hid ((hO1.below hb10).mono (Nat.zero_le _))
     have HX10:=Lib.hid hX10
     rw [if_pos HA0.out] at HF10 ⊢
     obtain ⟨ni,hni⟩: ∃n,(M.N (M.of a 1).1).L.length=n:=⟨_,rfl⟩
     rw [hni] at HF10 ⊢
     have hCa:(c'=0∧x∈(M.N (M.of a 1).1).L∧x.name=t)∨(c'=11∧x=Ent.zero∧ ∀z∈(M.N (M.of a 1).1).L,z.name≠t):=by
      rcases hC1 with ⟨h1, -⟩|⟨-,h1⟩
      ·exact absurd HA0.out h1
      ·exact h1
     clear hfa hO1 hb9 hb10 hX10 hb810 hLa8 hni hC1
     go_upto_region 13 with (first
      | ((with_reducible refine wpList_storeA_new hagx ?_ honex ?_ ?_ ?_);rfl;rfl;rfl;go_frame)
      | fail)
     simp only [hw10] at*
     clear hw10
     rcases hCa with ⟨rfl,hx,hxt⟩|⟨rfl,rfl,hno⟩
     ·have hA:RenAsk M a t b u x:=⟨⟨HN.out,HM.out⟩,HA0.out,HB0.out,hx,hxt⟩
      have HA:=Lib.hid hA
      have hoa:=of_0 HA0.out
      have hob:=of_0 HB0.out
      obtain ⟨-, -,hae, -⟩:=there_some hoa.1
      obtain ⟨hk1,hk2,hbe, -⟩:=there_some hob.1
      have hxe:=HT.out.ent _ x hx
      have HXE:=Lib.hid hxe
      have HKB:=Lib.hid (And.intro hk1 hk2)
      have HOB:=Lib.hid hob.2
      have HBE:=Lib.hid hbe
      have hLa:=lies_of HP10.out
      have hLb:=lies_of HR10.out
      have hstr:=str_eq t u
      clear hx hxt hA hoa hob hae hk1 hk2 hbe hxe
      by_cases hsm:a=b∧t=u
      ·rw [decide_eq_true hsm.1] at heq
       rw [decide_eq_true hsm.2] at hstr
       have HSM:=Lib.hid hsm
       clear hsm
       go_wp2_with (first
        | ((with_reducible refine wpList_loadA hagf hLa ?_ ?_);rfl;go_frame)
        | ((with_reducible refine wpList_loadA hagb hLb ?_ ?_);rfl;go_frame)
        | ((with_reducible refine wpList_exec rfl (exec_eqlS eqGFl heq ?_ ?_ _) ?_);rfl;rfl;go_frame)
        | fail)
       go_ret
       exact .inr ⟨⟨x,HA.out,HSM.out⟩,rfl,HB10.out⟩
      ·have HSM:=Lib.hid hsm
       go_upto_region 15 with fail
       go_cut [69] (fun v wx=>v= .bool false∧wx=w10)
       case first=>
        by_cases hab:a=b
        ·have htu:t≠u:=fun e=>hsm ⟨hab,e⟩
         rw [decide_eq_true hab] at heq
         rw [decide_eq_false htu] at hstr
         clear hab htu hsm
         go_wp2_with (first
          | ((with_reducible refine wpList_loadA hagf hLa ?_ ?_);rfl;go_frame)
          | ((with_reducible refine wpList_loadA hagb hLb ?_ ?_);rfl;go_frame)
          | ((with_reducible refine wpList_exec rfl (exec_eqlS eqGFl heq ?_ ?_ _) ?_);rfl;rfl;go_frame)
          | fail)
         go_meet
         case rel=>exact ⟨rfl,rfl⟩
        ·rw [decide_eq_false hab] at heq
         clear hab hsm hstr
         go_wp2_with (first
          | ((with_reducible refine wpList_loadA hagf hLa ?_ ?_);rfl;go_frame)
          | ((with_reducible refine wpList_loadA hagb hLb ?_ ?_);rfl;go_frame)
          | ((with_reducible refine wpList_exec rfl (exec_eqlS eqGFl heq ?_ ?_ _) ?_);rfl;rfl;go_frame)
          | fail)
         go_meet
         case rel=>exact ⟨rfl,rfl⟩
       case rest=>
       obtain ⟨rfl,hwx⟩:=hcut
       obtain rfl:=hwx.symm
       clear hwx hsm hstr heq
       obtain ⟨kx,hkx⟩: ∃n,x.kind=n:=⟨_,rfl⟩
       have HKX:=Lib.hid hkx
       have qx:w10.cell? ⟨w9.heap.size,3,none⟩=some (.int .i64 (kx:Nat)):=by rw [←hkx];exact cell_of HX10.out rfl
       have hagy2:=aggFl (x.ino:Int) (x.gen:Int)
       have hLx:=lies_file (lies_of HX10.out)
       clear hkx
       go_upto_region 17 with fail
       go_cut [78] (fun v wx=> ∃r,v= .bool r∧(r=true↔x.kind=1∧Reach M.N x.ino (M.of b 1).1)∧Below w10.heap.size w10 wx)
       case first=>
        by_cases hk1:kx=1
        ·subst hk1
         have hun:=funder_any (HH.out.below HB10.out) HT.out (x:=x.ino) (k:=(M.of b 1).1) ⟨Nat.le_trans (by decide) HXE.out.1,HXE.out.2.1⟩ (HXE.out.2.2.2.1.trans HKX.out) HKB.out HOB.out
         unfold UnderC at hun
         rw [HXE.out.2.2.2.2, ←(show b.1=((M.of b 1).1:Int) from congrArg Prod.fst HBE.out), ←(show b.2=((M.N (M.of b 1).1).gen:Int) from congrArg Prod.snd HBE.out)] at hun
         go_wp2_with (first
          | ((with_reducible refine wpList_loadA hagb hLb ?_ ?_);rfl;go_frame)
          | ((with_reducible refine wpList_loadA hagy2 hLx ?_ ?_);rfl;go_frame)
          | (go_big_want;(first|((with_reducible refine oper_execG (exec_loadA hagb ?_ hLb) ?_);rfl)|((with_reducible refine oper_execG (exec_loadA hagy2 ?_ hLx) ?_);rfl));go_frame)
          | fail)
         refine hun.mono ?_
         rintro e w11 ⟨⟨r,rfl,hr⟩,hb11⟩
         have HRR:=Lib.hid hr
         have HB11:=Lib.hid hb11
         clear hun hr hb11 hLa hLb hLx qx
         go_wp2
         go_meet
         case rel=>exact ⟨r,rfl,HRR.out.trans ⟨fun h=>⟨HKX.out,h⟩,fun h=>h.2⟩,HB11.out⟩
        ·have hkk:((kx:Int)==1)=false:=beq_eq_false_iff_ne.2 (by omega)
         have HK1:=Lib.hid hk1
         clear hk1 hLa hLb hLx
         go_wp2
         go_meet
         case rel=>exact ⟨false,rfl,⟨fun h=>(by cases h),fun h=>absurd (HKX.out.symm.trans h.1) HK1.out⟩,Below.refl _ _⟩
       case rest=>
       obtain ⟨r,rfl,hr,hb11⟩:=hcut
       have HRR:=Lib.hid hr
       have HB11:=Lib.hid (HB10.out.trans (hb11.mono HB10.out.size))
       have HP11:=Lib.hid ((hb11.block _ (lt_of_block HP10.out)).trans HP10.out)
       have HR11:=Lib.hid ((hb11.block _ (lt_of_block HR10.out)).trans HR10.out)
       have HY11:=Lib.hid ((hb11.block _ (lt_of_block HY10.out)).trans HY10.out)
       have HX11:=Lib.hid ((hb11.block _ (lt_of_block HX10.out)).trans HX10.out)
       have HO11:=Lib.hid (HO10.out.below hb11)
       have HF11:=Lib.hid (HF10.out.below hb11)
       clear hr hb11 qx hLa hLb hLx
       cases r with
       | true=>
        go_wp2
        go_ret
        exact .inl (.inl ⟨2,by decide, .under x HA.out HSM.out (HRR.out.1 (by trivial)).1 (HRR.out.1 (by trivial)).2,rfl,HB11.out⟩)
       | false=>
        have hnr:¬ Reach M.N x.ino (M.of b 1).1:=fun hc=>by
         rcases HXE.out.2.2.1 with h1|h1
         ·have:=HRR.out.2 ⟨h1,hc⟩
          cases this
         ·exact reach_file HT.out (HXE.out.2.2.2.1.trans h1) HOB.out hc
        have HNR:=Lib.hid hnr
        clear hnr
        rcases HQ2.out with ⟨rfl,hy,hyu⟩|⟨rfl,rfl,hno⟩
        ·have hrp:=freplaced_any (HH.out.below HB11.out) HT.out (x:=x) hy
         have hLy:=lies_of HY11.out
         have hLx:=lies_of HX11.out
         have HY:=Lib.hid (And.intro hy hyu)
         clear hy hyu
         go_wp2_with (first
          | ((with_reducible refine wpList_loadA hagy hLy ?_ ?_);rfl;go_frame)
          | ((with_reducible refine wpList_loadA hagx hLx ?_ ?_);rfl;go_frame)
          | fail)
         refine hrp.mono ?_
         rintro e w12 ⟨⟨cr,rfl,hcr⟩,hb12⟩
         have HB12:=Lib.hid (HB11.out.trans (hb12.mono HB11.out.size))
         have HP12:=Lib.hid ((hb12.block _ (lt_of_block HP11.out)).trans HP11.out)
         have HR12:=Lib.hid ((hb12.block _ (lt_of_block HR11.out)).trans HR11.out)
         have HY12:=Lib.hid ((hb12.block _ (lt_of_block HY11.out)).trans HY11.out)
         have HX12:=Lib.hid ((hb12.block _ (lt_of_block HX11.out)).trans HX11.out)
         have HO12:=Lib.hid (HO11.out.below hb12)
         have HF12:=Lib.hid (HF11.out.below hb12)
         clear hrp hb12 hLy hLx
         rcases hcr with ⟨hk,rfl⟩|⟨hk,hL,rfl⟩|⟨hk,hL,rfl⟩
         ·have HKK:=Lib.hid hk
          clear hk
          go_wp2
          go_ret
          exact .inl (.inl ⟨12,by decide, .kind x y HA.out HSM.out HNR.out HY.out.1 HY.out.2 HKK.out,rfl,HB12.out⟩)
         ·have HKK:=Lib.hid (And.intro hk hL)
          clear hk hL
          go_wp2
          go_ret
          exact .inl (.inl ⟨13,by decide, .more x y HA.out HSM.out HNR.out HY.out.1 HY.out.2 HKK.out.1 HKK.out.2,rfl,HB12.out⟩)
         ·have hmv:=fmove_any (HH.out.below HB12.out) HT.out HQ.out HCHK.out HV.out HA.out HSM.out HNR.out (.inr ⟨HY.out.1,HY.out.2,hk,hL⟩) (v1:= .slice a1 ni c1) (v2:= .slice a2 nk c2) HF12.out HO12.out
          have hLa:=lies_of HP12.out
          have hLb:=lies_of HR12.out
          have hLy:=lies_of HY12.out
          have hLx:=lies_of HX12.out
          clear hk hL
          go_wp2_with (first
           | ((with_reducible refine wpList_loadA hagf hLa ?_ ?_);rfl;go_frame)
           | ((with_reducible refine wpList_loadA hagb hLb ?_ ?_);rfl;go_frame)
           | ((with_reducible refine wpList_loadA hagy hLy ?_ ?_);rfl;go_frame)
           | ((with_reducible refine wpList_loadA hagx hLx ?_ ?_);rfl;go_frame)
           | fail)
          refine hmv.mono ?_
          rintro e w13 hch
          obtain ⟨cd,hcd⟩:=hch.code
          subst hcd
          have HCH:=Lib.hid hch
          clear hmv hch hLa hLb hLy hLx
          go_wp2
          go_ret
          exact .inl (HCH.out.before HB12.out fun b hb=>hb.elim (HH.out.fs.log.lt b) (HH.out.fs.disk.lt b))
        ·have hmv:=fmove_any (HH.out.below HB11.out) HT.out HQ.out HCHK.out HV.out HA.out HSM.out HNR.out (.inl ⟨rfl,hno⟩) (v1:= .slice a1 ni c1) (v2:= .slice a2 nk c2) HF11.out HO11.out
         have hLa:=lies_of HP11.out
         have hLb:=lies_of HR11.out
         have hLy:=lies_of HY11.out
         have hLx:=lies_of HX11.out
         clear hno
         go_wp2_with (first
          | ((with_reducible refine wpList_loadA hagf hLa ?_ ?_);rfl;go_frame)
          | ((with_reducible refine wpList_loadA hagb hLb ?_ ?_);rfl;go_frame)
          | ((with_reducible refine wpList_loadA hagy hLy ?_ ?_);rfl;go_frame)
          | ((with_reducible refine wpList_loadA hagx hLx ?_ ?_);rfl;go_frame)
          | fail)
         refine hmv.mono ?_
         rintro e w13 hch
         obtain ⟨cd,hcd⟩:=hch.code
         subst hcd
         have HCH:=Lib.hid hch
         clear hmv hch hLa hLb hLy hLx
         go_wp2
         go_ret
         exact .inl (HCH.out.before HB11.out fun b hb=>hb.elim (HH.out.fs.log.lt b) (HH.out.fs.disk.lt b))
     ·have HNO:=Lib.hid hno
      clear hno
      go_wp2
      go_ret
      exact .inl (.inl ⟨11,by decide, .none HN.out HM.out HA0.out HB0.out HNO.out,rfl,HB10.out⟩)
    ·obtain ⟨cc,hcc⟩: ∃cc,(M.of b 1).2=cc:=⟨_,rfl⟩
     have hc11:cc≠11:=by
      have:=of_codes (M:=M) b 1
      omega
     have hc0:cc≠0:=by rw [←hcc];exact hb0
     rcases hC2 with ⟨h1,rfl, -⟩|⟨h1, -⟩
     ·have HB0:=Lib.hid hb0
      rw [hcc]
      have e0:((cc:Int) !=0)=true:=by simp;omega
      have e1:((cc:Int) !=11)=true:=by simp;omega
      have HCC:=Lib.hid hcc
      have HC0:=Lib.hid hc0
      clear hb0 h1 hcc hc0 hc11
      go_wp2
      go_ret
      exact .inl (.inl ⟨cc,HC0.out,HCC.out ▸ .b HN.out HM.out HA0.out HB0.out,rfl,HB8.out⟩)
     ·exact absurd h1 hb0
   ·obtain ⟨cc,hcc⟩: ∃cc,(M.of a 1).2=cc:=⟨_,rfl⟩
    have hc0:cc≠0:=by rw [←hcc];exact ha0
    have HA0:=Lib.hid ha0
    rw [hcc]
    have e0:((cc:Int) !=0)=true:=by simp;omega
    have HCC:=Lib.hid hcc
    have HC0:=Lib.hid hc0
    clear ha0 hcc hc0
    go_wp2
    go_ret
    exact .inl (.inl ⟨cc,HC0.out,HCC.out ▸ .a HN.out HM.out HA0.out,rfl,HB6.out⟩)
end
section
variable {w0 wi w':World} {s p n i N:Nat} {M:Sm} {O:Nat→Prop}
theorem RemoveYes.ver {M':Sm} {f:Int×Int} {t:ByteArray} (h:RemoveYes M f t M') {i:Nat} (hv: ∀j,(M.N j).ver≤i): ∀j,(M'.N j).ver≤i+2:=fun k=>by
 obtain ⟨y, -, -, -,hN⟩:=h.N
 rw [hN]
 by_cases hk:k=(M.of f 1).1
 ·rw [hk,Fm.upd_at]
  show (M.N (M.of f 1).1).ver+1≤i+2
  have:=hv (M.of f 1).1
  omega
 ·rw [Fm.upd_ne _ _ hk]
  by_cases hk2:k=y.ino
  ·rw [hk2,Fm.upd_at]
   exact Nat.zero_le _
  ·rw [Fm.upd_ne _ _ hk2]
   have:=hv k
   omega
theorem RenameYes.ver {M':Sm} {a b:Int×Int} {t u:ByteArray} (h:RenameYes M a t b u M') {i:Nat} (hv: ∀j,(M.N j).ver≤i): ∀j,(M'.N j).ver≤i+2:=fun k=>by
 obtain ⟨x,N0,R, -, -, -,hW, -, -,hN⟩:=h.N
 have h0: ∀k,(N0 k).ver≤i:=fun k=>by
  rcases hW with ⟨-,rfl⟩|⟨y, -, -, -, -,rfl⟩
  ·exact hv k
  ·by_cases hk2:k=y.ino
   ·rw [hk2,Fm.upd_at]
    exact Nat.zero_le _
   ·rw [Fm.upd_ne _ _ hk2]
    exact hv k
 rw [hN]
 by_cases hk:k=(M.of b 1).1
 ·rw [hk,Fm.upd_at]
  show (M.N (M.of b 1).1).ver+1≤i+2
  have:=hv (M.of b 1).1
  omega
 ·rw [Fm.upd_ne _ _ hk]
  unfold renN1
  split
  ·have:=h0 k
   omega
  ·by_cases hk2:k=(M.of a 1).1
   ·rw [hk2,Fm.upd_at]
    show (M.N (M.of a 1).1).ver+1≤i+2
    have:=hv (M.of a 1).1
    omega
   ·rw [Fm.upd_ne _ _ hk2]
    have:=h0 k
    omega
theorem FSt.remove (h:FSt w0 s p n i N M O wi) (hT:Tree M.N) (hi:i≤800) (f:Int×Int) (t:ByteArray):Calls Tryz.prog 26 #[.pointer (some ⟨s,0,none⟩), .agg #[.int .i64 f.1, .int .i64 f.2], .string t] wi
  fun e w'=> ∃O',FTo wi O w' O'∧((∃c,c≠0∧RemoveNo M f t c∧e=retE c∧FSt w0 s p n i N M O' w')∨ ∃M',RemoveYes M f t M'∧e=retE 0∧FSt w0 s p n (i+2) N M' O' w'):=by
 obtain ⟨F,FD,g,l,d,h1,h2,h3,h4,h5⟩:=h.ex
 refine (fremove_any h1 hT (by rw [h2.Q];decide) (h2.chk (by omega)) (h2.vers (by omega)) f t).mono ?_
 intro e w' hr
 exact chg_st h h1 h2 h3 h4 h5 hi hr fun M' hy=>hy.ver h2.ver
theorem FSt.rename (h:FSt w0 s p n i N M O wi) (hT:Tree M.N) (hi:i≤800) (a b:Int×Int) (t u:ByteArray):Calls Tryz.prog 36 #[.pointer (some ⟨s,0,none⟩), .agg #[.int .i64 a.1, .int .i64 a.2], .string t, .agg #[.int .i64 b.1, .int .i64 b.2], .string u] wi
  fun e w'=> ∃O',FTo wi O w' O'∧((∃c,c≠0∧RenameNo M N a t b u c∧e=retE c∧FSt w0 s p n i N M O' w')∨(∃M',RenameYes M a t b u M'∧e=retE 0∧FSt w0 s p n (i+2) N M' O' w')∨RenSame M a t b u∧e=retE 0∧FSt w0 s p n i N M O' w'):=by
 obtain ⟨F,FD,g,l,d,h1,h2,h3,h4,h5⟩:=h.ex
 refine (frename_any h1 hT (by rw [h2.Q];decide) (h2.chk (by omega)) (h2.vers (by omega)) a b t u).mono ?_
 rintro e w' (hr|⟨hs,he,hb⟩)
 ·rw [h3] at hr
  obtain ⟨O',ho,hc⟩:=chg_st h h1 h2 h3 h4 h5 hi hr fun M' hy=>hy.ver h2.ver
  refine ⟨O',ho,?_⟩
  rcases hc with hc|hc
  ·exact .inl hc
  ·exact .inr (.inl hc)
 ·exact ⟨O,FTo.of_below O hb, .inr (.inr ⟨hs,he,h.below hb⟩)⟩
structure Dn where
 f:Nat×Nat
 n:Nat
 e:Nat
inductive DoR (M:Sm) (N:Nat) (c:DoX):Dn→Sm→Prop
 | crNo (e:Nat):c.kind=0→e≠0→CreateNo M N c.f c.s c.num e→DoR M N c ⟨(0,0),0,e⟩ M
 | cr (j gn:Nat) (M':Sm):c.kind=0→CreateYes M c.f c.s c.num j gn M'→DoR M N c ⟨(j,gn),0,0⟩ M'
 | rmNo (e:Nat):c.kind=1→e≠0→RemoveNo M c.f c.s e→DoR M N c ⟨(0,0),0,e⟩ M
 | rm (M':Sm):c.kind=1→RemoveYes M c.f c.s M'→DoR M N c ⟨(0,0),0,0⟩ M'
 | rnNo (e:Nat):c.kind=2→e≠0→RenameNo M N c.f c.s c.g c.t e→DoR M N c ⟨(0,0),0,e⟩ M
 | rn (M':Sm):c.kind=2→RenameYes M c.f c.s c.g c.t M'→DoR M N c ⟨(0,0),0,0⟩ M'
 | rnSame:c.kind=2→RenSame M c.f c.s c.g c.t→DoR M N c ⟨(0,0),0,0⟩ M
 | wrNo (e:Nat):c.kind=3→e≠0→WriteNo M N c.f c.num c.s e→DoR M N c ⟨(0,0),0,e⟩ M
 | wr (v:Nat) (M':Sm):c.kind=3→WriteYes M c.f c.num c.s v M'→DoR M N c ⟨(0,0),v,0⟩ M'
 | trNo (e:Nat):c.kind=4→e≠0→e=(M.of c.f 2).2→DoR M N c ⟨(0,0),0,e⟩ M
 | tr (v:Nat) (M':Sm):c.kind=4→TruncYes M c.f v M'→DoR M N c ⟨(0,0),v,0⟩ M'
theorem DoR.goes {c:DoX} {r:Dn} {M':Sm} (hT:Tree M.N) (hnd: ∀j,NdOk (M.N j)) (h:DoR M N c r M'):Goes M.N M'.N:=by
 cases h with
 | crNo|rmNo|rnNo|rnSame|wrNo|trNo=>exact ⟨hT,Later.refl _⟩
 | cr j gn M' _ h=>exact h.goes hT
 | rm M' _ h=>exact h.goes hT hnd
 | rn M' _ h=>exact h.goes hT hnd
 | wr v M' _ h=>exact h.goes hT
 | tr v M' _ h=>exact h.goes hT
def dnC (r:Dn):Array Value:= #[.int .i64 (r.f.1:Nat), .int .i64 (r.f.2:Nat), .int .u64 (r.n:Nat), .int .i64 (r.e:Nat)]
theorem aggDn (r:Dn):AggT Tryz.prog 39 (dnC r).size:=⟨⟨_,Tryz.underlying39,rfl⟩,by kernel_rfl⟩
theorem oneDn (r:Dn):(dnC r).all (·.oneCell')=true:=by simp [dnC,Value.oneCell']
end
theorem built_dn0 (j g c:Nat):Tryz.prog.built 39 [(0, .agg (flC j g)),(2, .int .i64 (c:Nat))]=some (dnC ⟨(j,g),0,c⟩):=by kernel_rfl
theorem built_dn1 (v c:Nat):Tryz.prog.built 39 [(1, .int .u64 (v:Nat)),(2, .int .i64 (c:Nat))]=some (dnC ⟨(0,0),v,c⟩):=by kernel_rfl
theorem built_dn2 (c:Nat):Tryz.prog.built 39 [(2, .int .i64 (c:Nat))]=some (dnC ⟨(0,0),0,c⟩):=by kernel_rfl
section
variable {w0 wi w':World} {s p n i N:Nat} {M:Sm} {O:Nat→Prop}
def DoP (w0 wi:World) (s p n i N:Nat) (M:Sm) (O:Nat→Prop) (c:DoX) (e:Ending) (w':World):Prop:=
 ∃r M' O',e= .returned (.agg (dnC r))∧DoR M N c r M'∧FTo wi O w' O'∧FSt w0 s p n (i+2) N M' O' w'
structure DoB (wi w2:World) (x:DoX×Sv):Prop where
 b:Below wi.heap.size wi w2
 x:w2.heap[wi.heap.size]?=some (.cells (doC x) 36 (0,0))
 r:w2.heap[wi.heap.size+1]?=some (.cells (dnC ⟨(0,0),0,0⟩) 39 (0,0))
theorem lies_f {w:World} {b:Nat} {x:DoX×Sv} (h:w.heap[b]?=some (.cells (doC x) 36 (0,0))):Lies w b 2 #[.int .i64 x.1.f.1, .int .i64 x.1.f.2]:=fun j hj=>by
 have hL:=lies_of h
 have hj2:j<2:=hj
 match j,hj2 with
 | 0,_=>exact hL 2 (by show 2<9;decide)
 | 1,_=>exact hL 3 (by show 3<9;decide)
theorem lies_g {w:World} {b:Nat} {x:DoX×Sv} (h:w.heap[b]?=some (.cells (doC x) 36 (0,0))):Lies w b 4 #[.int .i64 x.1.g.1, .int .i64 x.1.g.2]:=fun j hj=>by
 have hL:=lies_of h
 have hj2:j<2:=hj
 match j,hj2 with
 | 0,_=>exact hL 4 (by show 4<9;decide)
 | 1,_=>exact hL 5 (by show 5<9;decide)
theorem do_end {w2 w3 w4 w5:World} {x:DoX×Sv} {O':Nat→Prop} {r:Dn} {M':Sm} (hF:FSt w0 s p n i N M O wi) (hB:DoB wi w2 x) (hto:FTo w2 O w3 O') (hS:FSt w0 s p n (i+2) N M' O' w3) (hR:DoR M N x.1 r M') (hb:Below w3.heap.size w3 w4) (hm:Mod (fun y=>y=wi.heap.size+1) w4 w5):DoP w0 wi s p n i N M O x.1 (.returned (.agg (dnC r))) w5:=by
 have hlt:wi.heap.size+1<w2.heap.size:=lt_of_block hB.r
 have hnO: ∀y,O y→y<wi.heap.size:=hF.lt
 have hnO': ∀y,O' y→y<wi.heap.size∨w2.heap.size≤y:=fun y hy=>(hto.new y hy).imp (hnO y) id
 have hm25:Mod (fun y=>O y∨y=wi.heap.size+1) w2 w5:=by
  have h1:=hto.mod.trans (Mod.of_below hb) (T:=O) (fun _ h=>h) fun z hz hh=>absurd (Nat.lt_of_lt_of_le hz hto.mod.size) (Nat.not_lt.2 hh)
  exact h1.trans hm (T:=fun y=>O y∨y=wi.heap.size+1) (fun _ h=> .inl h) fun _ _ h=> .inr h
 have hm05:Mod O wi w5:=by
  have h1:Mod O wi w2:=mod_of_new hB.b
  exact h1.trans hm25 (fun _ h=>h) fun y hy h=>h.elim id fun e=>by omega
 refine ⟨r,M',O',rfl,hR,⟨hm05,fun y hy=>(hnO' y hy).elim (fun h=>(hto.new y hy).elim .inl fun h2=> .inr (Nat.le_trans hB.b.size h2)) fun h=> .inr (Nat.le_trans hB.b.size h)⟩,?_⟩
 obtain ⟨F,FD,g,l,d,k1,k2,k3,k4,k5⟩:=(hS.below hb).ex
 have hd: ∀y,F y∨FD y→y≠wi.heap.size+1:=fun y hy e=>by
  have:=hnO' y (k4 y hy)
  omega
 refine ⟨⟨F,FD,g,l,d,⟨k1.fs.mod hm (fun y hy=>hd y (.inl hy)) (fun y hy=>hd y (.inr hy)) (fun e=> ?_),k1.ok,k1.rep⟩,k2,k3,k4,k5⟩,hS.lo,hS.s,?_⟩
 ·obtain ⟨F2,FD2,g2,l2,d2,q1, -⟩:=hF.ex
  have:=lt_of_block q1.fs.blk
  have e:s=wi.heap.size+1:=e
  omega
 ·exact (hS.w.trans (hb.mono hS.w.size)).trans (hm.below (Nat.le_trans hS.w.size hb.size) fun y hy e=>by
   have:=hF.w.size
   omega)
set_option maxRecDepth 20000 in
set_option maxHeartbeats 8000000 in
theorem does_any (h:FSt w0 s p n i N M O wi) (hT:Tree M.N) (hi:i≤800) (x:DoX×Sv) (hk:0≤x.1.kind∧x.1.kind<5):Calls Tryz.prog 13 #[.pointer (some ⟨s,0,none⟩), .agg (doC x)] wi
  fun e w'=>DoP w0 wi s p n i N M O x.1 e w':=by
 obtain ⟨w1,hw1⟩: ∃w1,wi.alloc (.cells (doC x) 36)=w1:=⟨_,rfl⟩
 have hb1:Below wi.heap.size wi w1:=by rw [←hw1];exact (Below.refl _ _).alloc (Nat.le_refl _) _
 have hX1:w1.heap[wi.heap.size]?=some (.cells (doC x) 36 (0,0)):=by rw [←hw1];exact heap_alloc_at
 have z1:w1.heap.size=wi.heap.size+1:=by rw [←hw1];simp
 obtain ⟨w2,hw2⟩: ∃w2,w1.alloc (.cells #[.int .i64 0, .int .i64 0, .int .u64 0, .int .i64 0] 39)=w2:=⟨_,rfl⟩
 have hb2:Below w1.heap.size w1 w2:=by rw [←hw2];exact (Below.refl _ _).alloc (Nat.le_refl _) _
 have hX2:w2.heap[wi.heap.size+1]?=some (.cells (dnC ⟨(0,0),0,0⟩) 39 (0,0)):=by rw [←hw2, ←z1];exact heap_alloc_at
 have hB:DoB wi w2 x:=⟨hb1.trans (hb2.mono hb1.size),(hb2.block _ (lt_of_block hX1)).trans hX1,hX2⟩
 have h2:=h.below hB.b
 obtain ⟨kd,hkd⟩: ∃k,x.1.kind=k:=⟨_,rfl⟩
 have q0:w2.cell? ⟨wi.heap.size,0,none⟩=some (.int .i64 kd):=by rw [←hkd];exact cell_of hB.x rfl
 have q1:w2.cell? ⟨wi.heap.size,1,none⟩=some (.int .i64 x.1.num):=cell_of hB.x rfl
 have q6:w2.cell? ⟨wi.heap.size,6,none⟩=some (.string x.1.s):=cell_of hB.x rfl
 have q7:w2.cell? ⟨wi.heap.size,7,none⟩=some (.string x.1.t):=cell_of hB.x rfl
 have hLf:=lies_f hB.x
 have hLg:=lies_g hB.x
 have hagf:=aggFl x.1.f.1 x.1.f.2
 have hagg:=aggFl x.1.g.1 x.1.g.2
 rw [hkd] at hk
 have hk5:kd=0∨kd=1∨kd=2∨kd=3∨kd=4:=by omega
 have HB:=Lib.hid hB
 have HF:=Lib.hid h
 have HZ:=Lib.hid z1
 have HKD:=Lib.hid hkd
 have HT:=Lib.hid hT
 have H2:=Lib.hid h2
 clear h hb1 hX1 hb2 hX2 hB h2 hkd hT hk
 go_enter Tryz.func13,Tryz.ntmps13
 go_upto_region 1 with fail
 simp only [hw1,hw2] at*
 clear hw1 hw2
 rcases hk5 with rfl|rfl|rfl|rfl|rfl
 ·-- Create
  as_aux_lemma=>
  have hcr:=H2.out.create hi x.1.f x.1.s x.1.num
  go_wp2_with (first
   | ((with_reducible refine wpList_loadA hagf hLf ?_ ?_);rfl;go_frame)
   | fail)
  refine hcr.mono ?_
  rintro e w3 ⟨O',hto,hc⟩
  obtain ⟨j,gn,c,M',rfl,hR,hS⟩: ∃j gn c M',e= .returned (.tuple #[.agg (flC j gn), .int .i64 (c:Nat)])∧DoR M N x.1 ⟨(j,gn),0,c⟩ M'∧FSt w0 s p n (i+2) N M' O' w3:=by
   rcases hc with ⟨c,c0,hno,rfl,hS⟩|⟨j,gn,M',hy,rfl,hS⟩
   ·exact ⟨0,0,c,M,retC_no c0, .crNo c HKD.out c0 hno,hS.mono (by omega)⟩
   ·exact ⟨j,gn,0,M',rfl, .cr j gn M' HKD.out hy,hS⟩
  have hagj:AggT Tryz.prog 33 (flC j gn).size:=aggFl j gn
  have honej:(flC j gn).all (·.oneCell')=true:=oneF2 j gn
  obtain ⟨w4,hw4⟩: ∃w4,w3.alloc (.cells (flC j gn) 33)=w4:=⟨_,rfl⟩
  have hb4:Below w3.heap.size w3 w4:=by rw [←hw4];exact (Below.refl _ _).alloc (Nat.le_refl _) _
  have hL4:Lies w4 w3.heap.size 0 (flC j gn):=lies_of (by rw [←hw4];exact heap_alloc_at)
  have hr3:=hto.mod.heap HB.out.r (fun ho=>by have:=HF.out.lt _ ho;omega)
  have HR4:=Lib.hid ((hb4.block _ (lt_of_block hr3)).trans hr3)
  have HTO:=Lib.hid hto
  have HS:=Lib.hid hS
  have HR:=Lib.hid hR
  have HB4:=Lib.hid hb4
  have hag:=aggDn ⟨(j,gn),0,c⟩
  have hone:=oneDn ⟨(j,gn),0,c⟩
  clear hcr hc hto hS hR hb4 hr3 hLf hLg
  go_upto_region 4 with (first
   | ((with_reducible refine wpList_storeA_new hagj ?_ honej ?_ ?_ ?_);rfl;rfl;rfl;go_frame)
   | fail)
  simp only [hw4] at*
  clear hw4
  go_wp2_with (first
   | ((with_reducible refine wpList_loadA hagj hL4 ?_ ?_);rfl;go_frame)
   | ((with_reducible refine wpList_exec rfl (exec_buildA (vals:= [(0, .agg (flC j gn)),(2, .int .i64 (c:Nat))]) ?_ (built_dn0 j gn c)) ?_);rfl;go_frame)
   | ((with_reducible refine wpList_storeB hag ?_ ?_ HR4.out rfl hone ?_);rfl;rfl;(intro w9 hh9 hm9;have HH9:=Lib.hid hh9;have HM9:=Lib.hid hm9;clear hh9 hm9);go_frame)
   | fail)
  refine bodyPost_ret (results_cellA rfl _ rfl hag (lies_of HH9.out)) rfl ?_
  exact do_end HF.out HB.out HTO.out HS.out HR.out HB4.out HM9.out
 ·-- Remove
  as_aux_lemma=>
  have hcr:=H2.out.remove HT.out hi x.1.f x.1.s
  go_wp2_with (first
   | ((with_reducible refine wpList_loadA hagf hLf ?_ ?_);rfl;go_frame)
   | fail)
  refine hcr.mono ?_
  rintro e w3 ⟨O',hto,hc⟩
  obtain ⟨c,M',rfl,hR,hS⟩: ∃c M',e= .returned (.int .i64 (c:Nat))∧DoR M N x.1 ⟨(0,0),0,c⟩ M'∧FSt w0 s p n (i+2) N M' O' w3:=by
   rcases hc with ⟨c,c0,hno,rfl,hS⟩|⟨M',hy,rfl,hS⟩
   ·exact ⟨c,M,rfl, .rmNo c HKD.out c0 hno,hS.mono (by omega)⟩
   ·exact ⟨0,M',rfl, .rm M' HKD.out hy,hS⟩
  have HR4:=Lib.hid (hto.mod.heap HB.out.r (fun ho=>by have:=HF.out.lt _ ho;omega))
  have HTO:=Lib.hid hto
  have HS:=Lib.hid hS
  have HR:=Lib.hid hR
  have hag:=aggDn ⟨(0,0),0,c⟩
  have hone:=oneDn ⟨(0,0),0,c⟩
  clear hcr hc hto hS hR hLf hLg
  go_wp2_with (first
   | ((with_reducible refine wpList_exec rfl (exec_buildA (vals:= [(2, .int .i64 (c:Nat))]) ?_ (built_dn2 c)) ?_);rfl;go_frame)
   | ((with_reducible refine wpList_storeB hag ?_ ?_ HR4.out rfl hone ?_);rfl;rfl;(intro w9 hh9 hm9;have HH9:=Lib.hid hh9;have HM9:=Lib.hid hm9;clear hh9 hm9);go_frame)
   | fail)
  refine bodyPost_ret (results_cellA rfl _ rfl hag (lies_of HH9.out)) rfl ?_
  exact do_end HF.out HB.out HTO.out HS.out HR.out (Below.refl _ _) HM9.out
 ·-- Rename
  as_aux_lemma=>
  have hcr:=H2.out.rename HT.out hi x.1.f x.1.g x.1.s x.1.t
  go_wp2_with (first
   | ((with_reducible refine wpList_loadA hagf hLf ?_ ?_);rfl;go_frame)
   | ((with_reducible refine wpList_loadA hagg hLg ?_ ?_);rfl;go_frame)
   | fail)
  refine hcr.mono ?_
  rintro e w3 ⟨O',hto,hc⟩
  obtain ⟨c,M',rfl,hR,hS⟩: ∃c M',e= .returned (.int .i64 (c:Nat))∧DoR M N x.1 ⟨(0,0),0,c⟩ M'∧FSt w0 s p n (i+2) N M' O' w3:=by
   rcases hc with ⟨c,c0,hno,rfl,hS⟩|⟨M',hy,rfl,hS⟩|⟨hs,rfl,hS⟩
   ·exact ⟨c,M,rfl, .rnNo c HKD.out c0 hno,hS.mono (by omega)⟩
   ·exact ⟨0,M',rfl, .rn M' HKD.out hy,hS⟩
   ·exact ⟨0,M,rfl, .rnSame HKD.out hs,hS.mono (by omega)⟩
  have HR4:=Lib.hid (hto.mod.heap HB.out.r (fun ho=>by have:=HF.out.lt _ ho;omega))
  have HTO:=Lib.hid hto
  have HS:=Lib.hid hS
  have HR:=Lib.hid hR
  have hag:=aggDn ⟨(0,0),0,c⟩
  have hone:=oneDn ⟨(0,0),0,c⟩
  clear hcr hc hto hS hR hLf hLg
  go_wp2_with (first
   | ((with_reducible refine wpList_exec rfl (exec_buildA (vals:= [(2, .int .i64 (c:Nat))]) ?_ (built_dn2 c)) ?_);rfl;go_frame)
   | ((with_reducible refine wpList_storeB hag ?_ ?_ HR4.out rfl hone ?_);rfl;rfl;(intro w9 hh9 hm9;have HH9:=Lib.hid hh9;have HM9:=Lib.hid hm9;clear hh9 hm9);go_frame)
   | fail)
  refine bodyPost_ret (results_cellA rfl _ rfl hag (lies_of HH9.out)) rfl ?_
  exact do_end HF.out HB.out HTO.out HS.out HR.out (Below.refl _ _) HM9.out
 ·-- Write
  as_aux_lemma=>
  have hcr:=H2.out.write hi x.1.f x.1.num x.1.s
  go_wp2_with (first
   | ((with_reducible refine wpList_loadA hagf hLf ?_ ?_);rfl;go_frame)
   | fail)
  refine hcr.mono ?_
  rintro e w3 ⟨O',hto,hc⟩
  obtain ⟨v,c,M',rfl,hR,hS⟩: ∃v c M',e= .returned (.tuple #[.int .u64 (v:Nat), .int .i64 (c:Nat)])∧DoR M N x.1 ⟨(0,0),v,c⟩ M'∧FSt w0 s p n (i+2) N M' O' w3:=by
   rcases hc with ⟨c,c0,hno,rfl,hS⟩|⟨v,M',hy,rfl,hS⟩
   ·exact ⟨0,c,M,retT_no c0, .wrNo c HKD.out c0 hno,hS.mono (by omega)⟩
   ·exact ⟨v,0,M',rfl, .wr v M' HKD.out hy,hS⟩
  have HR4:=Lib.hid (hto.mod.heap HB.out.r (fun ho=>by have:=HF.out.lt _ ho;omega))
  have HTO:=Lib.hid hto
  have HS:=Lib.hid hS
  have HR:=Lib.hid hR
  have hag:=aggDn ⟨(0,0),v,c⟩
  have hone:=oneDn ⟨(0,0),v,c⟩
  clear hcr hc hto hS hR hLf hLg
  go_wp2_with (first
   | ((with_reducible refine wpList_exec rfl (exec_buildA (vals:= [(1, .int .u64 (v:Nat)),(2, .int .i64 (c:Nat))]) ?_ (built_dn1 v c)) ?_);rfl;go_frame)
   | ((with_reducible refine wpList_storeB hag ?_ ?_ HR4.out rfl hone ?_);rfl;rfl;(intro w9 hh9 hm9;have HH9:=Lib.hid hh9;have HM9:=Lib.hid hm9;clear hh9 hm9);go_frame)
   | fail)
  refine bodyPost_ret (results_cellA rfl _ rfl hag (lies_of HH9.out)) rfl ?_
  exact do_end HF.out HB.out HTO.out HS.out HR.out (Below.refl _ _) HM9.out
 ·-- Truncate
  as_aux_lemma=>
  have hcr:=H2.out.truncate hi x.1.f
  go_wp2_with (first
   | ((with_reducible refine wpList_loadA hagf hLf ?_ ?_);rfl;go_frame)
   | fail)
  refine hcr.mono ?_
  rintro e w3 ⟨O',hto,hc⟩
  obtain ⟨v,c,M',rfl,hR,hS⟩: ∃v c M',e= .returned (.tuple #[.int .u64 (v:Nat), .int .i64 (c:Nat)])∧DoR M N x.1 ⟨(0,0),v,c⟩ M'∧FSt w0 s p n (i+2) N M' O' w3:=by
   rcases hc with ⟨c,c0,hno,rfl,hS⟩|⟨v,M',hy,rfl,hS⟩
   ·exact ⟨0,c,M,retT_no c0, .trNo c HKD.out c0 hno,hS.mono (by omega)⟩
   ·exact ⟨v,0,M',rfl, .tr v M' HKD.out hy,hS⟩
  have HR4:=Lib.hid (hto.mod.heap HB.out.r (fun ho=>by have:=HF.out.lt _ ho;omega))
  have HTO:=Lib.hid hto
  have HS:=Lib.hid hS
  have HR:=Lib.hid hR
  have hag:=aggDn ⟨(0,0),v,c⟩
  have hone:=oneDn ⟨(0,0),v,c⟩
  clear hcr hc hto hS hR hLf hLg
  go_wp2_with (first
   | ((with_reducible refine wpList_exec rfl (exec_buildA (vals:= [(1, .int .u64 (v:Nat)),(2, .int .i64 (c:Nat))]) ?_ (built_dn1 v c)) ?_);rfl;go_frame)
   | ((with_reducible refine wpList_storeB hag ?_ ?_ HR4.out rfl hone ?_);rfl;rfl;(intro w9 hh9 hm9;have HH9:=Lib.hid hh9;have HM9:=Lib.hid hm9;clear hh9 hm9);go_frame)
   | fail)
  refine bodyPost_ret (results_cellA rfl _ rfl hag (lies_of HH9.out)) rfl ?_
  exact do_end HF.out HB.out HTO.out HS.out HR.out (Below.refl _ _) HM9.out
end
end Go.Proofs.YtjdbbnhnbdocbaaGreat
