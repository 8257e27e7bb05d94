import Derived.Test.YtldimgchpgoggaaGreatMgKpt40
import Derived.Deep.DeepCutAuto
import Derived.Deep.CutBlock
namespace Go.Proofs.YtldimgchpgoggaaGreat
open Go.RowKit Go.Tn Go.Tn.Bt Go.Tn.Lp Go.Tn.Dk Go.Tn.Ino Go.Tn.Slo Go.Tn.Ck Go.Tn.Pc
section
variable {w w':World}
set_option maxRecDepth 20000 in
set_option maxHeartbeats 8000000 in
theorem xsame_any {v u:Value} {xs ys:List Slt} (h:LSl enSl 7 w v xs) (h2:LSl enSl 7 w u ys) (hl:xs.length≤64) (hl2:ys.length≤64):Calls Tryz.prog 23 #[v,u] w fun e w'=>e= .returned (.bool (decide (xs=ys)))∧Below w.heap.size w w':=by
 have hsl:=h
 have hsl2:=h2
 obtain ⟨ao,cap,rfl,hl1,hlc,hvc⟩:=h
 obtain ⟨ao2,cap2,rfl,hl3,hlc2,hvc2⟩:=h2
 have HSL:=Lib.hid hsl
 have HSL2:=Lib.hid hsl2
 clear hsl hvc hsl2 hvc2
 by_cases hlen:xs.length=ys.length
 · obtain ⟨n,hn⟩: ∃n,xs.length=n:=⟨_,rfl⟩
   have hm:ys.length=n:=by omega
   have HN:=Lib.hid hn
   have HM:=Lib.hid hm
   have hn64:n≤64:=by omega
   rw [hn,hm]
   clear hl hl2 hl1 hl3 hlc hlc2 hlen hn hm
   go_enter Tryz.func23,Tryz.ntmps23
   go_wp2
   go_loopw [5] (fun iv wi=> ∃k:Nat,k≤n∧iv= .int .i64 k∧(∀j,j<k→xs[j]?=ys[j]?)∧Below w.heap.size w wi) (fun iv _=>n-(intOf iv).toNat)
   case atStart=>exact ⟨0,Nat.zero_le _,rfl,fun j hj=>absurd hj (Nat.not_lt_zero j),Below.refl _ _⟩
   case round=>
     obtain ⟨k,hk,rfl,hsm,hb⟩:=hrel
     have HB:=Lib.hid hb
     have HSM:=Lib.hid hsm
     clear hb hsm
     by_cases hkl:k<n
     · have hkl':(k:Int)<(n:Int):=by omega
       have hkx:k<xs.length:=by rw [HN.out];exact hkl
       have hky:k<ys.length:=by rw [HM.out];exact hkl
       have hgp:xs[k]?=some xs[k]:=List.getElem?_eq_getElem hkx
       have hgq:ys[k]?=some ys[k]:=List.getElem?_eq_getElem hky
       obtain ⟨b5,o5,cap6,hveq,hb5,hco⟩:=HSL.out.at_ hgp
       obtain ⟨rfl,rfl⟩:ao=some ⟨b5,o5,none⟩∧cap=cap6:=by simpa using hveq
       obtain ⟨b7,o7,cap8,hveq2,hb7,hcoy⟩:=HSL2.out.at_ hgq
       obtain ⟨rfl,rfl⟩:ao2=some ⟨b7,o7,none⟩∧cap2=cap8:=by simpa using hveq2
       obtain ⟨y,hy⟩: ∃y,xs[k]=y:=⟨_,rfl⟩
       obtain ⟨z,hz⟩: ∃z,ys[k]=z:=⟨_,rfl⟩
       rw [hy] at hgp hco
       rw [hz] at hgq hcoy
       have hco2:Lies w b5 (o5+k*7) (slC y):=hco
       have hcoy2:Lies w b7 (o7+k*7) (slC z):=hcoy
       have hLy:Lies wr.drew b5 (o5+k*7) (slC y):=hco2.below' HB.out.drew hb5
       have hLz:Lies wr.drew b7 (o7+k*7) (slC z):=hcoy2.below' HB.out.drew hb7
       have hS:Lies wr.drew b5 (o5+k*7) (slC y)∧Lies wr.drew b7 (o7+k*7) (slC z):=⟨hLy,hLz⟩
       have hgt:Tryz.prog.eqGuardType Tryz.prog.depth 38=false:=by kernel_rfl
       have heq:=fun w=>eqXs w y z
       have HG:=Lib.hid hgp
       have HG2:=Lib.hid hgq
       have hbd:Below w.heap.size w wr.drew:=HB.out.drew
       have HBD:=Lib.hid hbd
       clear hveq hveq2 hgp hgq hco hco2 hcoy hcoy2 hLy hLz hy hz hbd
       go_upto_region 6 with fail
       refine wp_region_x (fun w'=>Lies w' b5 (o5+k*7) (slC y)∧Lies w' b7 (o7+k*7) (slC z)) [(0,1),(1,1),(2,1),(3,0),(4,1),(5,1),(6,1),(7,0),(8,1)] (by kernel_rfl) (by kernel_rfl) (by intro d v c a w h;cases d<;>exact h) ?_
       iterate 3 (refine x_take rfl (fun K hK=> ?_);go_simp;refine hK _ ?_;clear hK K)
       refine x_read rfl hS (fun w' h=>exec_loadA (aggXs y) rfl h.1) ?_
       iterate 3 (refine x_take rfl (fun K hK=> ?_);go_simp;refine hK _ ?_;clear hK K)
       refine x_read rfl hS (fun w' h=>exec_loadA (aggXs z) rfl h.2) ?_
       refine x_take rfl (fun K hK=>⟨_,fun w=>exec_neqS hgt heq rfl rfl w,?_⟩)
       refine hK _ ?_
       clear hK K hS heq
       refine x_nil ?_
       by_cases hyz:y=z
       · rw [show decide (y=z)=true from decide_eq_true hyz]
         have HYZ:=Lib.hid hyz
         clear hyz
         go_wp2
         go_roundw
         case rel=>exact ⟨k+1,by omega,by go_num,fun j hj=>by
           by_cases hjk:j=k
           · rw [hjk,HG.out,HG2.out,HYZ.out]
           · exact HSM.out j (by omega),HBD.out⟩
         case measure=>simp [intOf];omega
       · rw [show decide (y=z)=false from decide_eq_false hyz]
         have hne:decide (xs=ys)=false:=decide_eq_false fun e=>by
           subst e
           have h1:=HG.out
           rw [HG2.out] at h1
           exact hyz (Option.some.inj h1).symm
         have HNE:=Lib.hid hne
         clear hyz hne
         go_wp2
         go_ret
         rw [HNE.out]
         exact ⟨rfl,HBD.out⟩
     · obtain rfl:k=n:=by omega
       have hyes:decide (xs=ys)=true:=decide_eq_true (List.ext_getElem? fun j=>by
         by_cases hj:j<k
         · exact HSM.out j hj
         · rw [List.getElem?_eq_none (by rw [HN.out];omega),List.getElem?_eq_none (by rw [HM.out];omega)])
       have HY:=Lib.hid hyes
       clear hyes
       go_wp2
       go_ret
       rw [HY.out]
       exact ⟨rfl,HB.out⟩
 · have hne:decide (xs=ys)=false:=decide_eq_false fun e=>hlen (by rw [e])
   have HNE:=Lib.hid hne
   have hne2:((xs.length:Int) !=(ys.length:Int))=true:=by simpa using (show ¬(xs.length:Int)=(ys.length:Int) by omega)
   clear hne hlen
   go_enter Tryz.func23,Tryz.ntmps23
   go_wp2
   go_ret
   rw [HNE.out]
   exact ⟨rfl,Below.refl _ _⟩
end
end Go.Proofs.YtldimgchpgoggaaGreat
namespace Go.Tn.Pc
open Go.Tn Go.Tn.Slo Go.Tn.Ck Go.Tn.Dk
def PC.like (c d:PC):Prop:=(∀x,c.has qAll x↔d.has qAll x)∧c.num=d.num
theorem PC.like.refl (c:PC):c.like c:=⟨fun _=>Iff.rfl,rfl⟩
theorem has_ff {c:PC} (f:Int×Int) (x:Slt):c.has (qX false false f) x↔c.has qAll x:=by
 unfold PC.has qX qAll
 simp
theorem has_tf {c:PC} (f:Int×Int) (x:Slt):c.has (qX true false f) x↔c.has qAll x∧x.dirty=true:=by
 unfold PC.has qX qAll
 simp [and_assoc]
theorem has_dirty {c:PC} (x:Slt):c.has qDirty x↔c.has qAll x∧x.dirty=true:=by
 unfold PC.has qDirty qAll
 simp [and_assoc]
end Go.Tn.Pc
namespace Go.Proofs.YtldimgchpgoggaaGreat
open Go.RowKit Go.Tn Go.Tn.Bt Go.Tn.Lp Go.Tn.Dk Go.Tn.Ino Go.Tn.Slo Go.Tn.Ck Go.Tn.Pc
section
variable {w0 w w':World} {I:Lg→Dsk→Prop} {c p:Nat} {P P2:PC} {G:Nat→Prop} {X:XA}
set_option maxRecDepth 20000 in
set_option maxHeartbeats 8000000 in
theorem lsame_any (h:PSt w0 I c p P G w) (hx:XAt w X P2):Calls Tryz.prog 22 #[.pointer (some ⟨c,0,none⟩), .pointer (some ⟨X.c,0,none⟩)] w
   fun e w'=> ∃b:Bool,e= .returned (.bool b)∧(b=true↔P.like P2)∧Below w.heap.size w w':=by
 have HP:=Lib.hid h
 have HX:=Lib.hid hx
 clear h hx
 go_enter Tryz.func22,Tryz.ntmps22
 go_upto_region 1 with fail
 have hS:Below w.heap.size w w.drew:=(Below.refl _ _).drew
 refine wp_region_g (fun w'=>Below w.heap.size w w') [(0,1),(3,1),(4,1),(1,2),(2,2),(5,2),(6,2),(7,1),(8,1),(11,1),(12,1),(9,2),(10,2),(13,2),(14,2),(15,1),(16,1),(17,1),(19,1),(20,1),(21,1),(22,0),(18,2),(23,1),(24,1),(25,1)] (by kernel_rfl) (by kernel_rfl) (by intro d v c a w h;cases d<;>exact h) ?_
 iterate 3 (refine g_take rfl rfl (fun K hK=> ?_);go_simp;refine hK _ ?_;clear hK K)
 refine g_show' rfl rfl (fun K hK=> ?_)
 go_simp
 refine (HP.out.below hS).all.mono ?_
 rintro e w1 ⟨v1,is1,rfl,hby1,hl1,hO1,hb1⟩
 have hS1:=hS.trans (hb1.mono hS.size)
 refine hK _ _ hS1 ?_
 clear hK K
 refine g_show' rfl rfl (fun K hK=> ?_)
 go_simp
 refine (xplain_any (hO1.sl elSl.len) (by rw [List.length_map];exact hl1)).mono ?_
 rintro e w2 ⟨v2,rfl,hO2,hb2⟩
 have hS2:=hS1.trans (hb2.mono hS1.size)
 refine hK _ _ hS2 ?_
 clear hK K
 refine g_show' rfl rfl (fun K hK=> ?_)
 go_simp
 refine (xall_any (HX.out.below hS2) false false (0,0)).mono ?_
 rintro e w3 ⟨v3,ys,rfl,hsb3,hl3,hO3,hb3⟩
 have hS3:=hS2.trans (hb3.mono hS2.size)
 refine hK _ _ hS3 ?_
 clear hK K
 refine g_show' rfl rfl (fun K hK=> ?_)
 go_simp
 refine (xsame_any ((hO2.sl elXs.len).below hb3) (hO3.sl elXs.len) (by rw [List.length_map];exact hl1) hl3).mono ?_
 rintro e w4 ⟨rfl,hb4⟩
 have hS4:=hS3.trans (hb4.mono hS3.size)
 refine hK _ _ hS4 ?_
 clear hK K
 have hq1:is1.map P.at_=ys↔ ∀x,P.has qAll x↔P2.has qAll x:=by
   have k1:=hby1.slots
   have k2:=hsb3.congr (has_ff (0,0))
   constructor
   · intro e x
     rw [←k1.mem, ←k2.mem,e]
   · intro e
     exact k1.uniq (k2.congr fun x=>(e x).symm)
 obtain ⟨b1,hb1'⟩: ∃b1,decide (is1.map P.at_=ys)=b1:=⟨_,rfl⟩
 rw [hb1']
 have HQ1:=Lib.hid hq1
 have HBB:=Lib.hid hb1'
 clear hS hS1 hS2 hS3 hO1 hO2 hO3 hb1 hb2 hb3 hb4 hq1 hb1' hby1 hsb3
 iterate 1 (refine g_take rfl rfl (fun K hK=> ?_);go_simp;refine hK _ ?_;clear hK K)
 cases b1 with
 | false=>
   have hno:¬ P.like P2:=fun e=>(of_decide_eq_false HBB.out) (HQ1.out.2 e.1)
   have HNO:=Lib.hid hno
   clear hno
   iterate 7 (refine g_offK rfl rfl (fun _=>hS4) (fun K hK=> ?_);go_simp;refine hK _ ?_;clear hK K)
   iterate 2 (refine g_take rfl rfl (fun K hK=> ?_);go_simp;refine hK _ ?_;clear hK K)
   iterate 7 (refine g_offK rfl rfl (fun _=>hS4) (fun K hK=> ?_);go_simp;refine hK _ ?_;clear hK K)
   iterate 2 (refine g_take rfl rfl (fun K hK=> ?_);go_simp;refine hK _ ?_;clear hK K)
   refine g_nil ?_
   have HS4:=Lib.hid hS4
   clear hS4
   go_wp2
   go_ret
   exact ⟨false,rfl,⟨fun e=>by (cases e),fun e=>absurd e HNO.out⟩,HS4.out⟩
 | true=>
   have hsame:=HQ1.out.1 (of_decide_eq_true HBB.out)
   iterate 3 (refine g_take rfl rfl (fun K hK=> ?_);go_simp;refine hK _ ?_;clear hK K)
   refine g_show' rfl rfl (fun K hK=> ?_)
   go_simp
   refine (HP.out.below hS4).dirty.mono ?_
   rintro e w5 ⟨v5,is5,rfl,hby5,hl5,hO5,hb5⟩
   have hS5:=hS4.trans (hb5.mono hS4.size)
   refine hK _ _ hS5 ?_
   clear hK K
   refine g_show' rfl rfl (fun K hK=> ?_)
   go_simp
   refine (xplain_any (hO5.sl elSl.len) (by rw [List.length_map];exact hl5)).mono ?_
   rintro e w6 ⟨v6,rfl,hO6,hb6⟩
   have hS6:=hS5.trans (hb6.mono hS5.size)
   refine hK _ _ hS6 ?_
   clear hK K
   refine g_show' rfl rfl (fun K hK=> ?_)
   go_simp
   refine (xall_any (HX.out.below hS6) true false (0,0)).mono ?_
   rintro e w7 ⟨v7,zs,rfl,hsb7,hl7,hO7,hb7⟩
   have hS7:=hS6.trans (hb7.mono hS6.size)
   refine hK _ _ hS7 ?_
   clear hK K
   refine g_show' rfl rfl (fun K hK=> ?_)
   go_simp
   refine (xsame_any ((hO6.sl elXs.len).below hb7) (hO7.sl elXs.len) (by rw [List.length_map];exact hl5) hl7).mono ?_
   rintro e w8 ⟨rfl,hb8⟩
   have hS8:=hS7.trans (hb8.mono hS7.size)
   refine hK _ _ hS8 ?_
   clear hK K
   have hq2:is5.map P.at_=zs:=by
     have k1:=hby5.slots
     exact k1.uniq (hsb7.congr fun x=>by rw [has_tf,has_dirty,hsame x])
   rw [decide_eq_true hq2]
   have HSM:=Lib.hid hsame
   clear hS4 hS5 hS6 hS7 hO5 hO6 hO7 hb5 hb6 hb7 hb8 hq2 hby5 hsb7 hsame
   iterate 2 (refine g_take rfl rfl (fun K hK=> ?_);go_simp;refine hK _ ?_;clear hK K)
   iterate 4 (refine g_take rfl rfl (fun K hK=> ?_);go_simp;refine hK _ ?_;clear hK K)
   refine g_read rfl rfl hS8 (fun w' h=>exec_load1 ⟨⟨_,Tryz.underlying36,rfl⟩⟩ rfl ((HX.out.below h).c2)) ?_
   refine g_show' rfl rfl (fun K hK=> ?_)
   go_simp
   refine (HP.out.below hS8).number.mono ?_
   rintro e w9 ⟨rfl,hw9⟩
   obtain rfl:=hw9.symm
   refine hK _ _ hS8 ?_
   clear hK K hw9
   iterate 3 (refine g_take rfl rfl (fun K hK=> ?_);go_simp;refine hK _ ?_;clear hK K)
   refine g_nil ?_
   have hfin:((P.num:Int)==(P2.num:Int))=true↔P.like P2:=by
     rw [beq_iff_eq]
     constructor
     · intro e
       exact ⟨HSM.out,by omega⟩
     · intro e
       rw [e.2]
   have HS8:=Lib.hid hS8
   have HFI:=Lib.hid hfin
   clear hS8 hfin
   go_wp2
   go_ret
   exact ⟨_,rfl,HFI.out,HS8.out⟩
end
section
variable {w w':World} {X:XA} {P:PC}
set_option maxRecDepth 20000 in
set_option maxHeartbeats 8000000 in
theorem xopen_any (h:XAt w X P):Calls Tryz.prog 21 #[.pointer (some ⟨X.c,0,none⟩)] w
   fun e w'=> ∃Y:XA,e= .returned (.pointer (some ⟨Y.c,0,none⟩))∧XAt w' Y (PC.opened P.L P.num P.L.length)∧Below w.heap.size w w'∧ ∀b,Y.own b→w.heap.size≤b:=by
 obtain ⟨n,hn⟩: ∃n,P.L.length=n:=⟨_,rfl⟩
 have hn64:n≤64:=by have:=h.n64;omega
 have hn1:1≤n:=by have:=h.ring.lo;have:=h.ok.len;omega
 have c0:w.cell? ⟨X.c,0,none⟩=some (.slice (some ⟨X.sb,0,none⟩) n n):=by rw [←hn];exact h.c0
 have hnw:=xnew_any w n hn1 hn64
 have HH:=Lib.hid h
 have HN:=Lib.hid hn
 clear h hn
 go_enter Tryz.func21,Tryz.ntmps21
 go_wp2_with fail
 refine hnw.mono ?_
 rintro e w2 ⟨Y,rfl,hY,hb2,hown⟩
 have c2:=(HH.out.below hb2).c2
 have g2:w2.frozen? ⟨Y.c,2,none⟩=false:=free_of hY.blk
 have g0:=hY.c2
 have hnum:=hY.numbered P.num
 have HB2:=Lib.hid hb2
 have HOWN:=Lib.hid hown
 have HNUM:=Lib.hid hnum
 clear hnw hY hb2 hown hnum c0
 go_upto_region 3 with fail
 obtain ⟨wz,hwz⟩: ∃wz,w2.setCell ⟨Y.c,2,none⟩ (.int .u64 (P.num:Nat))=wz:=⟨_,rfl⟩
 rw [hwz] at HNUM
 have hz:=HNUM.out
 have hbz:Below w.heap.size w wz:=HB2.out.trans (hz.2.below HB2.out.size fun x hx e=>by have:=HOWN.out x e;omega)
 have hno:({PC.new n 0 with num:=P.num}:PC)=PC.opened P.L P.num 0:=by
   unfold PC.opened
   rw [HN.out]
   rfl
 rw [hno] at hz
 have HZ:=Lib.hid hz.1
 have HBZ:=Lib.hid hbz
 simp only [hwz] at*
 clear hwz hz hbz hno c2 g2 g0
 go_wp2
 go_loopw [4] (fun iv wi=> ∃k:Nat,k≤n∧iv= .int .i64 k∧XAt wi Y (PC.opened P.L P.num k)∧Below w.heap.size w wi) (fun iv _=>n-(intOf iv).toNat)
 case atStart=>exact ⟨0,Nat.zero_le _,rfl,HZ.out,HBZ.out⟩
 case round=>
   obtain ⟨k,hk,rfl,hY,hb⟩:=hrel
   have hX:=HH.out.below hb
   have c0:wr.cell? ⟨X.c,0,none⟩=some (.slice (some ⟨X.sb,0,none⟩) n n):=by rw [←HN.out];exact hX.c0
   have HY:=Lib.hid hY
   have HB:=Lib.hid hb
   by_cases hkl:k<n
   · have hkl':(k:Int)<(n:Int):=by omega
     obtain ⟨x,hx⟩: ∃x,P.at_ k=x:=⟨_,rfl⟩
     have hkP:k<P.L.length:=by rw [HN.out];exact hkl
     have hLx:=hX.slot hkP
     have hxi:=HH.out.ok.is _ (List.mem_of_getElem? (at_get hkP))
     rw [hx] at hLx hxi
     have hagx:=aggXs x
     have hop:=opened_succ P.L P.num k
     have hgx:(P.L[k]?).getD Slt.no=x:=hx
     rw [hgx] at hop
     have hset:=xset_any hY k (by rw [opened_len];exact hkP) x hxi (fun j hj hji hu=>by
       rw [opened_len] at hj
       by_cases hxn:x=Slt.no
       · exact .inr hxn
       · refine .inl fun e=> ?_
         have hoa:=opened_at P.L P.num k (by omega) j
         rw [hoa] at hu e
         by_cases hjk:j<k
         · rw [if_pos hjk] at hu e
           have hu':(P.at_ j).used=true:=hu
           have e':(P.at_ j).blk=x.blk:=e
           rw [←hx] at e'
           have:=HH.out.ok.uniq j k (by omega) hkP hu' (by rw [hx];exact (is_used hxi).2 hxn) e'
           omega
         · rw [if_neg hjk] at hu
           cases hu)
     rw [←hop] at hset
     clear hX hY hb hx hxi hop hgx
     go_wp2_with (first
       | ((with_reducible refine wpList_loadA hagx hLx ?_ ?_);rfl;go_frame)
       | fail)
     refine hset.mono ?_
     rintro e w5 ⟨rfl,h5,hm5⟩
     have H5:=Lib.hid h5
     have HB5:=Lib.hid (HB.out.trans (hm5.below HB.out.size fun z hz e=>by have:=HOWN.out z e;omega))
     clear hset h5 hm5 hLx c0
     go_wp2
     go_roundw
     case rel=>exact ⟨k+1,by omega,by go_num,H5.out,HB5.out⟩
     case measure=>simp [intOf];omega
   · obtain rfl:k=n:=by omega
     clear hX hY hb
     go_wp2
     go_ret
     exact ⟨Y,rfl,by rw [HN.out];exact HY.out,HB.out,HOWN.out⟩
end
section
variable {w0 w w':World} {I:Lg→Dsk→Prop} {c p i:Nat} {P:PC} {G S:Nat→Prop} {X:XA}
theorem PSt.mod (h:PSt w0 I c p P G w) (hm:Mod S w w') (hS: ∀b,G b→¬ S b) (hlo: ∀b,S b→w0.heap.size≤b):PSt w0 I c p P G w':=by
 obtain ⟨⟨A,F,FD,l,d,h1,h2,h3,h4,h5⟩,h6,h7,h8⟩:=h
 exact ⟨⟨A,F,FD,l,d,h1,h2,h3.mod hm fun x hx=>hS x (h5 x hx),h4,h5⟩,h6,fun b hb=>Nat.lt_of_lt_of_le (h7 b hb) hm.size,h8.trans (hm.below h8.size fun b hb hs=>absurd (hlo b hs) (Nat.not_le.2 hb))⟩
structure Pair (w0:World) (i c p:Nat) (P:PC) (G:Nat→Prop) (X:XA) (wi:World):Prop where
 q:PQ w0 i c p P G wi
 x:XAt wi X P
 ap: ∀b,X.own b→¬ G b
 lo: ∀b,X.own b→w0.heap.size≤b
theorem Pair.below (h:Pair w0 i c p P G X w) (hb:Below w.heap.size w w'):Pair w0 i c p P G X w':=⟨h.q.below hb,h.x.below hb,h.ap,h.lo⟩
theorem Pair.mono {j:Nat} (h:Pair w0 i c p P G X w) (hij:i≤j):Pair w0 j c p P G X w:=⟨h.q.imp fun _ _ h=>h.mono hij,h.x,h.ap,h.lo⟩
theorem Pair.step {w1 w2:World} {P':PC} {j:Nat} (h:Pair w0 i c p P G X w) (h1:PQT w0 j c p P' G w w1) (h2:XAt w1 X P→XAt w2 X P'∧Mod X.own w1 w2): ∃G',Pair w0 j c p P' G' X w2:=by
 obtain ⟨G',k1,k2,k3⟩:=h1
 have hx1:=h.x.mod k2 h.ap
 have hap: ∀b,X.own b→¬ G' b:=fun b hb hg=>(k3 b hg).elim (h.ap b hb) fun e=>by have:=h.x.lt b hb;omega
 obtain ⟨m1,m2⟩:=h2 hx1
 exact ⟨G',k1.mod m2 (fun b hb hx=>hap b hx hb) h.lo,m1,hap,h.lo⟩
end
theorem lies_doB {w:World} {b o:Nat} {x:DoX×Sv} (h:Lies w b o (doC x)):Lies w b (o+3) (blC x.1.x.blk):=fun j hj=>by
 have hj3:j<3:=hj
 match j,hj3 with
 | 0,_=>exact h 3 (by show 3<11;decide)
 | 1,_=>exact h 4 (by show 4<11;decide)
 | 2,_=>exact h 5 (by show 5<11;decide)
end Go.Proofs.YtldimgchpgoggaaGreat
namespace Go.Tn.Ck
def Rn.cpy (r s:Rn) (k:Nat):Rn:=(List.range k).foldl (fun r i=>r.put i (s.at_ i)) r
theorem cpy_succ (r s:Rn) (k:Nat):r.cpy s (k+1)=(r.cpy s k).put k (s.at_ k):=by
 unfold Rn.cpy
 rw [List.range_succ,List.foldl_append]
 rfl
theorem cpy_len (r s:Rn): ∀k,(r.cpy s k).L.length=r.L.length
 | 0=>rfl
 | k+1=>by
   rw [cpy_succ]
   unfold Rn.put
   rw [List.length_set]
   exact cpy_len r s k
theorem cpy_hand (r s:Rn): ∀k,(r.cpy s k).hand=r.hand
 | 0=>rfl
 | k+1=>by
   rw [cpy_succ]
   exact cpy_hand r s k
theorem cpy_at (r s:Rn): ∀k,k≤r.L.length→ ∀j,(r.cpy s k).at_ j=if j<k then s.at_ j else r.at_ j
 | 0,_,j=>by rw [if_neg (Nat.not_lt_zero j)];rfl
 | k+1,hk,j=>by
   rw [cpy_succ,Go.Tn.Pc.rn_at_put (by rw [cpy_len];omega),cpy_at r s k (by omega) j]
   by_cases e:j=k
   · subst e
     rw [if_pos rfl,if_pos (Nat.lt_succ_self j)]
   · rw [if_neg e]
     by_cases h:j<k
     · rw [if_pos h,if_pos (by omega)]
     · rw [if_neg h,if_neg (by omega)]
theorem cpy_all {r s:Rn} (h:r.L.length=s.L.length) (hh:r.hand=s.hand):r.cpy s s.L.length=s:=by
 have hl:=cpy_len r s s.L.length
 have e:(r.cpy s s.L.length).L=s.L:=List.ext_getElem? fun j=>by
   by_cases hj:j<s.L.length
   · have ha:=cpy_at r s s.L.length (by omega) j
     rw [if_pos hj] at ha
     unfold Rn.at_ at ha
     rw [List.getElem?_eq_getElem hj,List.getElem?_eq_getElem (by omega)] at ha ⊢
     exact congrArg some ha
   · rw [List.getElem?_eq_none (by omega),List.getElem?_eq_none (by omega)]
 have e2:=cpy_hand r s s.L.length
 rw [hh] at e2
 generalize r.cpy s s.L.length=t at*
 cases t;cases s
 simp only at e e2
 rw [e,e2]
end Go.Tn.Ck
namespace Go.Proofs.YtldimgchpgoggaaGreat
open Go.RowKit Go.Tn Go.Tn.Bt Go.Tn.Lp Go.Tn.Dk Go.Tn.Ino Go.Tn.Slo Go.Tn.Ck Go.Tn.Pc
section
variable {w w':World} {X:XA} {P:PC}
set_option maxRecDepth 20000 in
set_option maxHeartbeats 8000000 in
theorem xcopy_any (h:XAt w X P):Calls Tryz.prog 36 #[.pointer (some ⟨X.c,0,none⟩)] w
   fun e w'=> ∃Y:XA,e= .returned (.pointer (some ⟨Y.c,0,none⟩))∧XAt w' Y P∧Below w.heap.size w w'∧ ∀b,Y.own b→w.heap.size≤b:=by
 have hop:=xopen_any h
 obtain ⟨n,hn⟩: ∃n,P.L.length=n:=⟨_,rfl⟩
 have hn64:n≤64:=by have:=h.n64;omega
 have hR:P.R.L.length=n:=h.ok.len.trans hn
 have HH:=Lib.hid h
 have HN:=Lib.hid hn
 have HR:=Lib.hid hR
 clear h hn hR
 go_enter Tryz.func36,Tryz.ntmps36
 go_wp2_with fail
 refine hop.mono ?_
 rintro e w2 ⟨Y,rfl,hY,hb2,hown⟩
 have hYR:(PC.opened P.L P.num P.L.length).R.L.length=n:=hY.ok.len.trans ((opened_len _ _ _).trans HN.out)
 obtain ⟨O,hO⟩: ∃O,PC.opened P.L P.num P.L.length=O:=⟨_,rfl⟩
 have hOL:O.L=P.L:=by rw [←hO];exact opened_L P.L P.num
 have hON:O.num=P.num:=by rw [←hO];exact opened_num _ _ _
 rw [hO] at hY hYR
 have hX2:=HH.out.below hb2
 have hdY:=hY.below (Below.refl w2.heap.size w2).drew
 have hdX:=hX2.below (Below.refl w2.heap.size w2).drew
 have hS:w2.drew.cell? ⟨Y.c,1,none⟩=some (.pointer (some ⟨Y.rb,0,none⟩))∧w2.drew.cell? ⟨X.c,1,none⟩=some (.pointer (some ⟨X.rb,0,none⟩))∧w2.drew.cell? ⟨X.rb,1,none⟩=some (.int .i64 (P.R.hand:Nat)):=⟨hdY.c1,hdX.c1,hdX.ring.c1⟩
 have hold:=hdY.ring.c1
 have hfr:w2.drew.frozen? ⟨Y.rb,1,none⟩=false:=free_of hdY.ring.blk
 have hhd:=hdY.ring.handed P.R.hand (by rw [hYR, ←HR.out];exact HH.out.ring.hand)
 have hmh:=(Mod.refl (fun b=>b=Y.rb) w2.drew).setCell ⟨Y.rb,1,none⟩ (.int .i64 (P.R.hand:Nat)) (fun _=>rfl)
 have HY:=Lib.hid hY
 have HO:=Lib.hid hO
 have HOL:=Lib.hid hOL
 have HON:=Lib.hid hON
 have HYR:=Lib.hid hYR
 have HB2:=Lib.hid hb2
 have HOWN:=Lib.hid hown
 have HDY:=Lib.hid hdY
 clear hop hY hb2 hown hYR hO hOL hON hX2 hdY hdX
 go_upto_region 2 with fail
 refine wp_region_x (fun w'=>w'.cell? ⟨Y.c,1,none⟩=some (.pointer (some ⟨Y.rb,0,none⟩))∧w'.cell? ⟨X.c,1,none⟩=some (.pointer (some ⟨X.rb,0,none⟩))∧w'.cell? ⟨X.rb,1,none⟩=some (.int .i64 (P.R.hand:Nat))) [(0,1),(1,1),(2,1),(3,0),(4,1),(5,1),(6,1),(7,0),(8,1),(9,1),(10,0),(11,1),(12,1),(13,3)] (by kernel_rfl) (by kernel_rfl) (by intro d v c a w h;cases d<;>exact h) ?_
 iterate 3 (refine x_take rfl (fun K hK=> ?_);go_simp;refine hK _ ?_;clear hK K)
 refine x_read rfl hS (fun w' h=>exec_load1 ⟨⟨_,Tryz.underlying83,rfl⟩⟩ rfl h.1) ?_
 iterate 3 (refine x_take rfl (fun K hK=> ?_);go_simp;refine hK _ ?_;clear hK K)
 refine x_read rfl hS (fun w' h=>exec_load1 ⟨⟨_,Tryz.underlying83,rfl⟩⟩ rfl h.2.1) ?_
 iterate 2 (refine x_take rfl (fun K hK=> ?_);go_simp;refine hK _ ?_;clear hK K)
 refine x_read rfl hS (fun w' h=>exec_load1 ⟨⟨_,Tryz.underlying3,rfl⟩⟩ rfl h.2.2) ?_
 iterate 2 (refine x_take rfl (fun K hK=> ?_);go_simp;refine hK _ ?_;clear hK K)
 refine x_skip rfl (exec_store1 ⟨⟨_,Tryz.underlying3,rfl⟩⟩ (by kernel_rfl) rfl rfl rfl hold hfr) ?_
 refine x_nil ?_
 obtain ⟨R0,hR0'⟩: ∃R0:Rn,Rn.mk O.R.L P.R.hand=R0:=⟨_,rfl⟩
 have hhd2:XRAt (w2.drew.setCell ⟨Y.rb,1,none⟩ (.int .i64 (P.R.hand:Nat))) Y.rb Y.pb R0:=by rw [←hR0'];exact hhd
 have hlc:R0.L.length=n:=by rw [←hR0'];exact HYR.out
 have hhc:R0.hand=P.R.hand:=by rw [←hR0']
 have hat0: ∀i,R0.at_ i=O.R.at_ i:=fun i=>by rw [←hR0'];rfl
 have hokc: ∀k,k≤n→PC.Ok {O with R:=R0.cpy P.R k}:=fun k hk=>HY.out.ok.ring ((cpy_len _ _ k).trans (hlc.trans HYR.out.symm)) fun i hi=>by
   rw [cpy_at _ _ k (by rw [hlc];exact hk) i]
   by_cases h:i<k
   · rw [if_pos h,HH.out.ok.used i (by rw [HN.out];omega),HY.out.ok.used i hi,at_of_L HOL.out]
   · rw [if_neg h,hat0]
 have hz:XAt (w2.drew.setCell ⟨Y.rb,1,none⟩ (.int .i64 (P.R.hand:Nat))) Y {O with R:=R0.cpy P.R 0}:=HDY.out.ringed hhd2 (hmh.mono fun _ _ h=> .inl h) (hokc 0 (Nat.zero_le _))
 have hbz:Below w.heap.size w (w2.drew.setCell ⟨Y.rb,1,none⟩ (.int .i64 (P.R.hand:Nat))):=(HB2.out.drew).trans (hmh.below HB2.out.drew.size fun x hx e=>by
   have e:x=Y.rb:=e
   have:=HOWN.out x (.inr (.inr (.inl e)))
   omega)
 have hall:({O with R:=R0.cpy P.R n}:PC)=P:=by
   have e:=cpy_all (r:=R0) (s:=P.R) (by rw [hlc,HR.out]) hhc
   rw [HR.out] at e
   rw [e]
   have h1:=HOL.out
   have h2:=HON.out
   cases O;cases P
   simp only at h1 h2 ⊢
   rw [h1,h2]
 have HZ:=Lib.hid hz
 have HBZ:=Lib.hid hbz
 have HOKC:=Lib.hid hokc
 have HALL:=Lib.hid hall
 have HLC:=Lib.hid hlc
 clear hS hold hfr hhd hhd2 hmh hz hbz hokc hall hR0' hlc hhc hat0
 go_upto_region 3 with fail
 show Code.wp Tryz.prog _ _ _ (w2.drew.setCell ⟨Y.rb,1,none⟩ (.int .i64 (P.R.hand:Nat)))
 generalize w2.drew.setCell ⟨Y.rb,1,none⟩ (.int .i64 (P.R.hand:Nat))=wz at*
 go_wp2
 go_loopw [4] (fun iv wi=> ∃k:Nat,k≤n∧iv= .int .i64 k∧XAt wi Y {O with R:=R0.cpy P.R k}∧Below w.heap.size w wi) (fun iv _=>n-(intOf iv).toNat)
 case atStart=>exact ⟨0,Nat.zero_le _,rfl,HZ.out,HBZ.out⟩
 case round=>
   obtain ⟨k,hk,rfl,hYk,hb⟩:=hrel
   have hX:=HH.out.below hb
   have c1:=hX.c1
   have r0:wr.cell? ⟨X.rb,0,none⟩=some (.slice (some ⟨X.pb,0,none⟩) n n):=by rw [←HR.out];exact hX.ring.c0
   have HYK:=Lib.hid hYk
   have HB:=Lib.hid hb
   by_cases hkl:k<n
   · have hkl':(k:Int)<(n:Int):=by omega
     obtain ⟨p,hp⟩: ∃p,P.R.at_ k=p:=⟨_,rfl⟩
     have hLp:=hX.ring.lies (i:=k) (by rw [HR.out];exact hkl)
     rw [hp] at hLp
     have hlk:(R0.cpy P.R k).L.length=n:=by rw [cpy_len];exact HLC.out
     have hYd:=hYk.below (Below.refl wr.heap.size wr).drew
     have hyr:wr.drew.cell? ⟨Y.rb,0,none⟩=some (.slice (some ⟨Y.pb,0,none⟩) n n):=by rw [←hlk];exact hYd.ring.c0
     have hS:wr.drew.cell? ⟨Y.c,1,none⟩=some (.pointer (some ⟨Y.rb,0,none⟩))∧wr.drew.cell? ⟨Y.rb,0,none⟩=some (.slice (some ⟨Y.pb,0,none⟩) n n)∧wr.drew.cell? ⟨X.c,1,none⟩=some (.pointer (some ⟨X.rb,0,none⟩))∧wr.drew.cell? ⟨X.rb,0,none⟩=some (.slice (some ⟨X.pb,0,none⟩) n n)∧Lies wr.drew X.pb (k*3) (plC p):=⟨hYd.c1,hyr,c1,r0,hLp⟩
     have hagp:=aggPl p
     have honp:=onePl p
     have hst:=fun (ρ:Operand→Value) (ty:TypeId) (pos:String) (after:Array Edge) (x' y':Operand) (hx':ρ x'= .pointer (some ⟨Y.pb,k*3,none⟩)) (hy':ρ y'= .agg (plC p))=>
       exec_storeA (P:=Tryz.prog) (dst:=none) (g:=none) (ty:=ty) (pos:=pos) (after:=after) (w:=wr.drew) hagp hx' hy' hYd.ring.pl (by rw [places_size];show k*3+3≤(R0.cpy P.R k).L.length*3;omega) (fun v hv=>by rw [Array.all_eq_true'] at honp;exact honp v (by simpa using hv))
     have hs5:=heap_setCells_at (plC p).toList (k*3) wr.drew (placesC (R0.cpy P.R k).L) hYd.ring.pl
     rw [places_set (by rw [hlk];exact hkl)] at hs5
     have hm5:Mod (fun b=>b=Y.pb) wr _:=Mod.setCells (S:=fun b=>b=Y.pb) (fun _=>rfl) (plC p).toList (k*3) wr.drew ((Mod.refl _ wr).drew)
     have hmd:Mod (fun b=>b=Y.pb) wr.drew _:=Mod.setCells (S:=fun b=>b=Y.pb) (fun _=>rfl) (plC p).toList (k*3) wr.drew (Mod.refl _ wr.drew)
     have h10:=hYd.ring.put (i:=k) p hs5 hmd
     have hsc:(R0.cpy P.R k).put k p=R0.cpy P.R (k+1):=by rw [cpy_succ,hp]
     have h10':XRAt (wr.drew.setCells Y.pb (k*3) (plC p).toList) Y.rb Y.pb (R0.cpy P.R (k+1)):=by rw [←hsc];exact h10
     have hfin:=(hYd.ringed h10' (hmd.mono fun _ _ h=> .inr h) (HOKC.out (k+1) hkl))
     have hbf:Below w.heap.size w (wr.drew.setCells Y.pb (k*3) (plC p).toList):=HB.out.trans (hm5.below HB.out.size fun x hx e=>by
       have e:x=Y.pb:=e
       have:=HOWN.out x (.inr (.inr (.inr e)))
       omega)
     have HFIN:=Lib.hid hfin
     have HBF:=Lib.hid hbf
     clear hX hYk hb hp hLp hYd hyr hs5 hm5 hmd h10 hsc h10' hfin hbf hlk
     go_upto_region 6 with fail
     clear c1 r0
     refine wp_region_x (fun w'=>w'.cell? ⟨Y.c,1,none⟩=some (.pointer (some ⟨Y.rb,0,none⟩))∧w'.cell? ⟨Y.rb,0,none⟩=some (.slice (some ⟨Y.pb,0,none⟩) n n)∧w'.cell? ⟨X.c,1,none⟩=some (.pointer (some ⟨X.rb,0,none⟩))∧w'.cell? ⟨X.rb,0,none⟩=some (.slice (some ⟨X.pb,0,none⟩) n n)∧Lies w' X.pb (k*3) (plC p)) [(0,1),(1,1),(2,1),(3,0),(4,1),(5,1),(6,0),(7,1),(8,1),(9,1),(10,1),(11,0),(12,1),(13,1),(14,0),(15,1),(16,1),(17,0),(18,1),(19,3)] (by kernel_rfl) (by kernel_rfl) (by intro d v c a w h;cases d<;>exact h) ?_
     iterate 3 (refine x_take rfl (fun K hK=> ?_);go_simp;refine hK _ ?_;clear hK K)
     refine x_read rfl hS (fun w' h=>exec_load1 ⟨⟨_,Tryz.underlying83,rfl⟩⟩ rfl h.1) ?_
     iterate 2 (refine x_take rfl (fun K hK=> ?_);go_simp;refine hK _ ?_;clear hK K)
     refine x_read rfl hS (fun w' h=>exec_load1 ⟨⟨_,Tryz.underlying123,rfl⟩⟩ rfl h.2.1) ?_
     iterate 4 (refine x_take rfl (fun K hK=> ?_);go_simp;refine hK _ ?_;clear hK K)
     refine x_read rfl hS (fun w' h=>exec_load1 ⟨⟨_,Tryz.underlying83,rfl⟩⟩ rfl h.2.2.1) ?_
     iterate 2 (refine x_take rfl (fun K hK=> ?_);go_simp;refine hK _ ?_;clear hK K)
     refine x_read rfl hS (fun w' h=>exec_load1 ⟨⟨_,Tryz.underlying123,rfl⟩⟩ rfl h.2.2.2.1) ?_
     iterate 2 (refine x_take rfl (fun K hK=> ?_);go_simp;refine hK _ ?_;clear hK K)
     refine x_read rfl hS (fun w' h=>exec_loadA hagp rfl h.2.2.2.2) ?_
     iterate 1 (refine x_take rfl (fun K hK=> ?_);go_simp;refine hK _ ?_;clear hK K)
     refine x_skip rfl (hst _ _ _ _ _ _ rfl rfl) ?_
     refine x_nil ?_
     clear hS hst honp hagp
     generalize wr.drew.setCells Y.pb (k*3) (plC p).toList=w10 at*
     go_wp2
     go_roundw
     case rel=>exact ⟨k+1,by omega,by go_num,HFIN.out,HBF.out⟩
     case measure=>simp [intOf];omega
   · obtain rfl:k=n:=by omega
     clear hX hYk hb
     go_wp2
     go_ret
     have hY:=HYK.out
     rw [HALL.out] at hY
     exact ⟨Y,rfl,hY,HB.out,HOWN.out⟩
end
def enX (y:XA×PC):List Value:= [.pointer (some ⟨y.1.c,0,none⟩)]
theorem elX:ElT Tryz.prog 79 51 1 enX:=⟨Tryz.underlying79,by kernel_rfl,by decide,fun _=>rfl,fun x u hu=>by rw [List.mem_singleton.1 hu];rfl⟩
section
variable {w0 w w':World} {I:Lg→Dsk→Prop} {c p:Nat} {P:PC} {G:Nat→Prop}
set_option maxRecDepth 20000 in
set_option maxHeartbeats 8000000 in
theorem lmatches_any (h:PSt w0 I c p P G w) {v:Value} {l:List (XA×PC)} (hl:LSl enX 1 w v l) (hx: ∀y∈l,XAt w y.1 y.2) (hlen:l.length≤1000):Calls Tryz.prog 40 #[.pointer (some ⟨c,0,none⟩),v] w
   fun e w'=> ∃v' l',e= .returned v'∧(∀y,y∈l'↔y∈l∧P.like y.2)∧l'.length≤l.length∧LOut enX 1 51 w.heap.size w' v' l'∧Below w.heap.size w w':=by
 have hsl:=hl
 obtain ⟨ao,cap,rfl,hl1,hl2,hvc⟩:=hl
 have HSL:=Lib.hid hsl
 have HP:=Lib.hid h
 have HX:=Lib.hid hx
 clear hsl hvc h hx
 go_enter Tryz.func40,Tryz.ntmps40
 go_wp2
 go_loopw [5,6] (fun ov iv wi=> ∃(k:Nat) (l':List (XA×PC)),k≤l.length∧iv= .int .i64 k∧(∀y,y∈l'↔y∈l.take k∧P.like y.2)∧l'.length≤k∧Below w.heap.size w wi∧LOut enX 1 51 w.heap.size wi ov l') (fun _ iv _=>l.length-(intOf iv).toNat)
 case atStart=>exact ⟨0, [],Nat.zero_le _,rfl,fun y=>by simp,Nat.le_refl _,Below.refl _ _,LOut.nil (Nat.le_refl _)⟩
 case round=>
   obtain ⟨k,l',hk,rfl,hmem,hll,hb,hO⟩:=hrel
   have HB:=Lib.hid hb
   have HO:=Lib.hid hO
   have HMEM:=Lib.hid hmem
   clear hb hO hmem
   by_cases hkl:k<l.length
   · have hkl':(k:Int)<(l.length:Int):=by omega
     have hgp:l[k]?=some l[k]:=List.getElem?_eq_getElem hkl
     obtain ⟨b5,o5,cap6,hveq,hb5,hco⟩:=HSL.out.at_ hgp
     obtain ⟨rfl,rfl⟩:ao=some ⟨b5,o5,none⟩∧cap=cap6:=by simpa using hveq
     have htk:l.take (k+1)=l.take k++ [l[k]]:=by
       rw [List.take_add_one,hgp]
       rfl
     have hyl:=List.getElem_mem hkl
     obtain ⟨y,hy⟩: ∃y,l[k]=y:=⟨_,rfl⟩
     rw [hy] at hgp hco htk hyl
     have hcw:=hco.below' HB.out hb5
     have q0:wr.cell? ⟨b5,o5+k,none⟩=some (.pointer (some ⟨y.1.c,0,none⟩)):=by
       have:=hcw 0 (by simp [enX])
       simpa [enX] using this
     have hsm:=lsame_any (HP.out.below HB.out) ((HX.out y hyl).below HB.out)
     obtain ⟨a3,n3,c3,rfl⟩:=HO.out.shape
     have HTK:=Lib.hid htk
     have HB5L:=Lib.hid hb5
     have HCO:=Lib.hid hco
     clear hveq hgp hco hcw htk hyl hy
     go_wp2_with fail
     refine hsm.mono ?_
     rintro e w5 ⟨bb,rfl,hbb,hb5'⟩
     have HB5:=Lib.hid (HB.out.trans (hb5'.mono HB.out.size))
     have hO5:=lout_below HO.out hb5'
     have q5:w5.cell? ⟨b5,o5+k,none⟩=some (.pointer (some ⟨y.1.c,0,none⟩)):=by
       have:=(HCO.out.below' HB5.out HB5L.out) 0 (by simp [enX])
       simpa [enX] using this
     have HBB:=Lib.hid hbb
     clear hsm hbb q0 hb5'
     cases bb with
     | false=>
       have hno:¬ P.like y.2:=fun e=>by have:=HBB.out.2 e;cases this
       have HNO:=Lib.hid hno
       have HO5:=Lib.hid hO5
       clear hno hO5
       go_wp2
       go_roundw
       case rel=>exact ⟨k+1,l',by omega,by go_num,fun z=>by
         rw [HTK.out,List.mem_append,List.mem_singleton,HMEM.out z]
         constructor
         · rintro ⟨h1,h2⟩
           exact ⟨.inl h1,h2⟩
         · rintro ⟨h1|h1,h2⟩
           · exact ⟨h1,h2⟩
           · rw [h1] at h2
             exact absurd h2 HNO.out,by omega,HB5.out,HO5.out⟩
       case measure=>simp [intOf];omega
     | true=>
       have hyes:P.like y.2:=HBB.out.1 rfl
       have HYES:=Lib.hid hyes
       have hol:l'.length≤1000:=by omega
       clear hyes
       go_wp2_with (first
         | ((with_reducible refine wpList_append1 elX hO5 y hol ?_ ?_ ?_ ?_);rfl;rfl;rfl;(intro v9 w9 hO9 hb9;have HO9:=Lib.hid hO9;have HB9:=Lib.hid hb9;clear hO9 hb9);go_frame)
         | fail)
       have HBF:=Lib.hid (HB5.out.trans HB9.out)
       clear hO5 q5
       go_roundw
       case rel=>exact ⟨k+1,l'++ [y],by omega,by go_num,fun z=>by
         rw [HTK.out,List.mem_append,List.mem_singleton,List.mem_append,List.mem_singleton,HMEM.out z]
         constructor
         · rintro (⟨h1,h2⟩|h1)
           · exact ⟨.inl h1,h2⟩
           · exact ⟨.inr h1,by rw [h1];exact HYES.out⟩
         · rintro ⟨h1|h1,h2⟩
           · exact .inl ⟨h1,h2⟩
           · exact .inr h1,by simp;omega,HBF.out,HO9.out⟩
       case measure=>simp [intOf];omega
   · obtain rfl:k=l.length:=by omega
     have hm:=HMEM.out
     rw [List.take_length] at hm
     have HM:=Lib.hid hm
     clear hm
     go_wp2
     go_ret
     exact ⟨_,l',rfl,HM.out,hll,HO.out,HB.out⟩
end
theorem kstWr {n i:Nat} {l:Lg} {d:Dsk} {S:List (List (List Nat))} (h:KLive n i l d S) (hi:i≤900) {ps:List Pt} (ht:transB ps (l.homes d)=true) (hb: ∀p∈ps, ∀x∈p.2,x<256) (hN:cutN (recB ps)≤n) (hQ:d.Q.length≤900000000):
   (((stWr l d ps).2.2=0∧ ∃S2,KLive n (i+2) (stWr l d ps).1 (stWr l d ps).2.1 S2∧homesB (stWr l d ps).1 (stWr l d ps).2.1=overB (homesB l d) ps∧ ∀x∈S2,x∈S∨x=overB (homesB l d) ps)∨
   ((stWr l d ps).2.2=7∧ ∃S2,KDead n (i+2) (stWr l d ps).1 (stWr l d ps).2.1 S2∧ ∀x∈S2,x∈S∨x=overB (homesB l d) ps))∧
   ((l.write d ps).2.2=8→(l.check d).2.2=0→(l.check d).1.ok (l.check d).2.1):=by
 obtain ⟨hfit,hdok⟩:=h.fitd
 have hep:=h.ep
 have hnx:=h.nx
 have hc: ∀lx:Lg,lx.epoch≤256*(i+1)+1→lx.next≤100*(i+1)→cutB lx.epoch lx.next (recB ps)= .ok (cutL lx.epoch lx.next (recB ps)):=fun lx h1 h2=>cut_ok ht (by omega) (by omega)
 have hwd:=write_dok (ps:=ps) hfit hdok (by omega)
 rcases klive_write h (by omega) hb hwd with ⟨w0,w1⟩|⟨w0,w1⟩|⟨w0,w7,w2,w3⟩
 · have e1:=write_homes h.on h.err hfit.n2 ht (hc l (by omega) (by omega)) w0
   have hst:stWr l d ps=l.write d ps:=by
     unfold stWr
     rw [if_pos (by rw [w0];decide)]
   rw [hst]
   refine ⟨.inl ⟨w0,_,w1.mono (by omega),e1,fun x hx=> ?_⟩,fun h8=>by rw [w0] at h8;cases h8⟩
   rcases List.mem_append.1 hx with hx|hx
   · exact .inl hx
   · rw [List.mem_singleton.1 hx]
     exact .inr e1
 · have hst:stWr l d ps=l.write d ps:=by
     unfold stWr
     rw [if_pos (by rw [w0];decide)]
   rw [hst]
   refine ⟨.inr ⟨w0,_,w1.mono (by omega),fun x hx=> ?_⟩,fun h8=>by rw [w0] at h8;cases h8⟩
   rcases List.mem_append.1 hx with hx|hx
   · exact .inl hx
   · exact .inr (List.mem_singleton.1 hx)
 · obtain ⟨w8, -⟩:=write_codes h.err ht (hc l (by omega) (by omega)) w0 w7
   have hcd:=check_dok hfit hdok (by omega)
   obtain ⟨S0,hS0⟩:=h.last
   have hlast:homesB l d∈S:=by rw [hS0];simp
   rcases klive_check h (by omega) hcd with ⟨c0,c1,c2⟩|⟨c0,c1⟩
   · have hst:stWr l d ps=(l.check d).1.write (l.check d).2.1 ps:=by
       unfold stWr
       rw [if_neg (by rw [w8];decide),if_neg (by rw [c0];decide)]
     have hcf:=check_free c0
     have hcn:(l.check d).1.n=n:=c1.rn
     have hcfit:=c1.fitd
     have hch:(l.check d).1.homes (l.check d).2.1=l.homes d:=by
       have:=congrArg List.length c2
       rwa [homesB_len,homesB_len] at this
     refine ⟨?_,fun _ _=>KInv.ok (.inl c1) (by omega)⟩
     rw [hst]
     have ht2:transB ps ((l.check d).1.homes (l.check d).2.1)=true:=by rw [hch];exact ht
     have hQ2:=(lcheck_Q (l:=l) (d:=d) hdok.hi).1
     have hwd2:=write_dok (ps:=ps) hcfit.1 hcfit.2 (by omega)
     have hep2:=c1.ep
     have hnx2:=c1.nx
     have hc2:=hc (l.check d).1 hep2 hnx2
     rw [←c2] at c1
     rcases klive_write c1 (by omega) hb hwd2 with ⟨x0,x1⟩|⟨x0,x1⟩|⟨x0,x7, -⟩
     · have e1:=write_homes c1.on c1.err hcfit.1.n2 ht2 hc2 x0
       rw [c2] at x1 e1
       refine .inl ⟨x0,_,x1,e1,fun x hx=> ?_⟩
       simp only [List.cons_append,List.nil_append,List.mem_cons,List.not_mem_nil,or_false] at hx
       rcases hx with hx|hx
       · rw [hx];exact .inl hlast
       · rw [hx];exact .inr e1
     · refine .inr ⟨x0,_,x1,fun x hx=> ?_⟩
       rw [c2] at hx
       simp only [List.cons_append,List.nil_append,List.mem_cons,List.not_mem_nil,or_false] at hx
       rcases hx with hx|hx
       · rw [hx];exact .inl hlast
       · exact .inr hx
     · obtain ⟨-,hfr⟩:=write_codes c1.err ht2 hc2 x0 x7
       omega
   · have hst:stWr l d ps=l.check d:=by
       unfold stWr
       rw [if_neg (by rw [w8];decide),if_pos (by rw [c0];decide)]
     rw [hst]
     exact ⟨.inr ⟨c0,_,c1.mono (by omega),fun x hx=> .inl hx⟩,fun _ h0=>by rw [c0] at h0;cases h0⟩
structure PGood (n:Nat) (Q:PC):Prop where
 ok:Q.Ok
 hand:Q.R.hand<Q.R.L.length
 len:Q.L.length=n
 num:Q.num≤1099511627775
structure PMode (i n:Nat) (l:Lg) (d:Dsk) (P:PC) (T:List PC):Prop where
 mode:(∃S,KLive 20 i l d S∧(∀s∈S, ∃Q∈T,Shows s Q.L Q.num)∧Shows (homesB l d) P.L P.num∧T.getLast?=some P)∨(∃S,KDead 20 i l d S∧ ∀s∈S, ∃Q∈T,Shows s Q.L Q.num)
 me:PGood n P
 good: ∀Q∈T,PGood n Q
 dl:d.L.length=n+24
 lo:1≤n
 hi:n≤12
section
variable {i n:Nat} {l:Lg} {d:Dsk} {P:PC} {T:List PC}
theorem PMode.mono {j:Nat} (h:PMode i n l d P T) (hj:i≤j):PMode j n l d P T:=by
 refine ⟨?_,h.me,h.good,h.dl,h.lo,h.hi⟩
 rcases h.mode with ⟨S,h1,h2⟩|⟨S,h1,h2⟩
 · exact .inl ⟨S,h1.mono hj,h2⟩
 · exact .inr ⟨S,h1.mono hj,h2⟩
theorem PMode.ok (h:PMode i n l d P T) (hi:i≤900):l.ok d:=by
 rcases h.mode with ⟨S,h1, -⟩|⟨S,h1, -⟩
 · exact KInv.ok (.inl h1) (by omega)
 · exact KInv.ok (.inr h1) (by omega)
theorem PMode.crash (h:PMode i n l d P T) (hi:i≤200) (keep:List Int) (torn:Int):
   ∃l2 Q,Q∈T∧openB (d.crash keep torn) 20=some l2∧newestB (d.crash keep torn) (2+20)<16777215∧KLive 20 (i+1) l2 (d.crash keep torn) [homesB l2 (d.crash keep torn)]∧Shows (homesB l2 (d.crash keep torn)) Q.L Q.num∧(d.crash keep torn).L.length=n+24:=by
 have hcl:=crash_L d keep torn
 have hn:=h.lo
 rcases h.mode with ⟨S,h1,h2, -⟩|⟨S,h1,h2⟩
 · obtain ⟨l2,k1,k2,k3,k4⟩:=kcrash h1.outs h1.fitd.2 (by decide) (by rw [h.dl];omega) hi keep torn
   obtain ⟨Q,q1,q2⟩:=h2 _ k4
   exact ⟨l2,Q,q1,k1,k2,k3,q2,by rw [hcl,h.dl]⟩
 · obtain ⟨l2,k1,k2,k3,k4⟩:=kcrash h1.outs h1.dok (by decide) (by rw [h.dl];omega) hi keep torn
   obtain ⟨Q,q1,q2⟩:=h2 _ k4
   exact ⟨l2,Q,q1,k1,k2,k3,q2,by rw [hcl,h.dl]⟩
theorem PMode.arm (h:PMode i n l d P T) {x:Int} (hx:x<9223372036854775808):PMode i n l (d.arm x) P T:=by
 have hL:=(arm_L d x).1
 have hho:homesB l (d.arm x)=homesB l d:=by
   unfold homesB Lg.homes
   rw [hL]
   refine List.map_congr_left fun k _=> ?_
   rw [home_getD,home_getD]
   have hg: ∀j,(d.arm x).get j=d.get j:=fun j=>by
     obtain ⟨e1,e2⟩:=arm_L d x
     unfold Dsk.get
     rw [e1,e2]
   rw [hg]
 refine ⟨?_,h.me,h.good,by rw [hL];exact h.dl,h.lo,h.hi⟩
 rcases h.mode with ⟨S,h1,h2,h3,h4⟩|⟨S,h1,h2⟩
 · rcases KInv.arm (.inl h1) hx with h'|h'
   · exact .inl ⟨S,h',h2,by rw [hho];exact h3,h4⟩
   · exact .inr ⟨S,h',h2⟩
 · rcases KInv.arm (.inr h1) hx with h'|h'
   · exfalso
     have h3:=h'.on
     have h4:=h1.off
     unfold Dsk.arm at h3
     rw [if_pos (.inr h4),h4] at h3
     cases h3
   · exact .inr ⟨S,h',h2⟩
end
end Go.Proofs.YtldimgchpgoggaaGreat
