import Derived.Test.YtldimgchpgoggaaGreatMgKpt38
namespace Go.Proofs.YtldimgchpgoggaaGreat
open Go.RowKit Go.Tn Go.Tn.Bt Go.Tn.Lp Go.Tn.Dk Go.Tn.Ino Go.Tn.Slo Go.Tn.Ck Go.Tn.Pc
section
variable {w w':World} {X:XA} {P:PC}
theorem XAt.ringed (h:XAt w X P) {R':Rn} (hr:XRAt w' X.rb X.pb R') (hm:Mod (fun b=>b=X.rb∨b=X.pb) w w') (hok:PC.Ok {P with R:=R'}):XAt w' X {P with R:=R'}:=by
 refine ⟨?_,?_,hr,h.ne,hok⟩
 · exact hm.heap h.blk (by rintro (e|e);exact h.ne.2.1 e;exact h.ne.2.2.1 e)
 · exact hm.heap h.slots (by rintro (e|e);exact h.ne.2.2.2.1 e;exact h.ne.2.2.2.2 e)
theorem ring_own {w w':World} (hm:Mod (fun b=>b=X.rb∨b=X.pb) w w'):Mod X.own w w':=hm.mono fun b _ h=>h.elim (fun h=> .inr (.inr (.inl h))) fun h=> .inr (.inr (.inr h))
structure BoxX (w:World) (b:Nat) (x:Slt):Prop where
 blk:w.heap[b]?=some (.cells (slC x) 38 (0,0))
theorem BoxX.d0 {b:Nat} {x:Slt} (h:BoxX w b x):w.cell? ⟨b,0,none⟩=some (.bool x.used):=cell_of h.blk rfl
theorem BoxX.d1 {b:Nat} {x:Slt} (h:BoxX w b x):w.cell? ⟨b,1,none⟩=some (.int .i64 x.blk.1):=cell_of h.blk rfl
theorem BoxX.d2 {b:Nat} {x:Slt} (h:BoxX w b x):w.cell? ⟨b,2,none⟩=some (.int .i64 x.blk.2.1):=cell_of h.blk rfl
theorem BoxX.d3 {b:Nat} {x:Slt} (h:BoxX w b x):w.cell? ⟨b,3,none⟩=some (.int .i64 x.blk.2.2):=cell_of h.blk rfl
theorem BoxX.d4 {b:Nat} {x:Slt} (h:BoxX w b x):w.cell? ⟨b,4,none⟩=some (.int .u64 (x.ver:Nat)):=cell_of h.blk rfl
theorem BoxX.d5 {b:Nat} {x:Slt} (h:BoxX w b x):w.cell? ⟨b,5,none⟩=some (.bool x.dirty):=cell_of h.blk rfl
theorem BoxX.d6 {b:Nat} {x:Slt} (h:BoxX w b x):w.cell? ⟨b,6,none⟩=some (.string x.data):=cell_of h.blk rfl
theorem BoxX.below {b:Nat} {x:Slt} {k:Nat} (h:BoxX w b x) (hb:Below k w w') (hk:b<k):BoxX w' b x:=⟨(hb.block _ hk).trans h.blk⟩
theorem BoxX.mod {b:Nat} {x:Slt} {S:Nat→Prop} (h:BoxX w b x) (hm:Mod S w w') (hk:¬ S b):BoxX w' b x:=⟨hm.heap h.blk hk⟩
theorem BoxX.lt {b:Nat} {x:Slt} (h:BoxX w b x):b<w.heap.size:=lt_of_block h.blk
set_option maxRecDepth 20000 in
set_option maxHeartbeats 8000000 in
theorem xput_any (h:XAt w X P) (x:Slt):Calls Tryz.prog 55 #[.pointer (some ⟨X.c,0,none⟩), .agg (slC x)] w fun e w'=>e= .returned (.int .i64 ((P.put x).2:Nat))∧XAt w' X (P.put x).1∧Mod X.own w w':=by
 obtain ⟨w1,hw1⟩: ∃w1,w.alloc (.cells (slC x) 38)=w1:=⟨_,rfl⟩
 have hb1:Below w.heap.size w w1:=by rw [←hw1];exact (Below.refl _ _).alloc (Nat.le_refl _) _
 have hX:BoxX w1 w.heap.size x:=⟨by rw [←hw1];exact heap_alloc_at⟩
 obtain ⟨q,hq⟩: ∃q,decide x.is=q:=⟨_,rfl⟩
 have hcall:=xis_any w1 x
 rw [hq] at hcall
 have hnx: ∀b,X.own b→b≠w.heap.size:=fun b hb e=>by have:=h.lt b hb;omega
 have hof: ∀w9,Below w.heap.size w w9→Mod X.own w w9:=fun w9 hb=>(Mod.of_below hb).mono (T:=X.own) fun b hb hS=>absurd hb (Nat.not_lt.2 hS)
 have hagb:=aggBl x.blk
 have hagx:AggT Tryz.prog 38 7:=aggXs x
 have hnot:q=false→P.put x=(P,2):=fun e=>by
   unfold PC.put
   rw [if_pos fun e2=>by rw [e] at hq;exact of_decide_eq_false hq e2.1]
 have hno:x.used=false→P.put x=(P,2):=fun e=>by
   unfold PC.put
   rw [if_pos fun e2=>by rw [(is_used e2.1).2 e2.2] at e;cases e]
 have hyes:q=true→x.used=true→x.is∧P.put x=if (P.place x.blk).2.2≠0 then ((P.place x.blk).1,(P.place x.blk).2.2) else ((P.place x.blk).1.set (P.place x.blk).2.1 x,0):=fun e u=>by
   rw [e] at hq
   refine ⟨of_decide_eq_true hq,?_⟩
   unfold PC.put
   rw [if_neg fun e2=>e2 ⟨of_decide_eq_true hq,(is_used (of_decide_eq_true hq)).1 u⟩]
 have d0:=hX.d0
 have d1:=hX.d1
 have d2:=hX.d2
 have d3:=hX.d3
 have d4:=hX.d4
 have d5:=hX.d5
 have d6:=hX.d6
 have HH:=Lib.hid h
 have HX:=Lib.hid hX
 have HB1:=Lib.hid hb1
 have HNX:=Lib.hid hnx
 have HOF:=Lib.hid hof
 have HNOT:=Lib.hid hnot
 have HNO:=Lib.hid hno
 have HYES:=Lib.hid hyes
 have HQ:=Lib.hid hq
 clear h hX hb1 hnx hof hnot hno hyes hq
 go_enter Tryz.func55,Tryz.ntmps55
 go_upto_region 1 with fail
 simp only [hw1] at*
 clear hw1
 go_wp2_with fail
 refine hcall.mono ?_
 rintro e w2 ⟨rfl,hb2⟩
 have hx2:=HX.out.below hb2 HX.out.lt
 have HX2:=Lib.hid hx2
 have HB2:=Lib.hid (HB1.out.trans (hb2.mono HB1.out.size))
 have e0:=hx2.d0
 have e1:=hx2.d1
 have e2:=hx2.d2
 have e3:=hx2.d3
 have hC2:=HH.out.below HB2.out
 have hat:=xat_any hC2 x.blk
 obtain ⟨u,hu⟩: ∃u,x.used=u:=⟨_,rfl⟩
 rw [hu] at e0
 have HU:=Lib.hid hu
 have HC2:=Lib.hid hC2
 clear hcall hb2 hx2 d0 d1 d2 d3 d4 d5 d6 hu hC2
 cases q with
 | false=>
   have hp:=HNOT.out rfl
   have HP:=Lib.hid hp
   clear hat hp
   go_wp2
   go_ret
   rw [HP.out]
   exact ⟨rfl,HC2.out,HOF.out _ HB2.out⟩
 | true=>
   cases u with
   | false=>
     have hp:=HNO.out HU.out
     have HP:=Lib.hid hp
     clear hat hp
     go_wp2
     go_ret
     rw [HP.out]
     exact ⟨rfl,HC2.out,HOF.out _ HB2.out⟩
   | true=>
     obtain ⟨hxi,hput⟩:=HYES.out rfl HU.out
     cases hf:P.find x.blk with
     | some i=>
       obtain ⟨i1,i2,i3⟩:=(find_some HC2.out.ok).1 hf
       rw [hf] at hat
       have hpl:P.place x.blk=(P,i,0):=by unfold PC.place;rw [hf]
       rw [hpl,if_neg (by simp)] at hput
       have hset: ∀w9,XAt w9 X P→_:=fun w9 h9=>xset_any h9 i i1 x hxi (fun j hj hji hu=> .inl fun e=>hji (HC2.out.ok.uniq j i hj i1 hu i2 (e.trans i3.symm)))
       have HSET:=Lib.hid hset
       have HPUT:=Lib.hid hput
       have hi0:¬ ((i:Int)<0):=by omega
       clear hf hset hput hpl i1 i2 i3
       go_wp2_with fail
       refine hat.mono ?_
       rintro e w3 ⟨rfl,hb3⟩
       have hx3:=HX2.out.below hb3 HX2.out.lt
       have HB3:=Lib.hid (HB2.out.trans (hb3.mono HB2.out.size))
       have d0:=hx3.d0
       have d1:=hx3.d1
       have d2:=hx3.d2
       have d3:=hx3.d3
       have d4:=hx3.d4
       have d5:=hx3.d5
       have d6:=hx3.d6
       have hset:=HSET.out w3 (HC2.out.below hb3)
       clear hat e0 e1 e2 e3 hb3 hx3
       unfold fIx
       go_wp2_with fail
       refine hset.mono ?_
       rintro e w4 ⟨rfl,h4,hm4⟩
       have H4:=Lib.hid h4
       have HM4:=Lib.hid ((HOF.out _ HB3.out).trans hm4 (T:=X.own) (fun _ h=>h) fun _ _ h=>h)
       clear hset d0 d1 d2 d3 d4 d5 d6 h4 hm4
       go_wp2
       go_ret
       rw [HPUT.out]
       exact ⟨rfl,H4.out,HM4.out⟩
     | none=>
       rw [hf] at hat
       have hpl:P.place x.blk=({P with R:=P.R.next.1},P.R.next.2.1.toNat,P.R.next.2.2):=by unfold PC.place;rw [hf]
       have hok:=place_ok HC2.out.ok (by have:=HC2.out.ring.hand;exact this) x.blk
       have hps:=place_set HC2.out.ok (by have:=HC2.out.ring.hand;exact this) hxi
       have hnk:=(next_keeps P.R HC2.out.ring.hand).2.2.2
       rw [hpl] at hok hput hps
       obtain ⟨cn,hcn⟩: ∃cn,P.R.next.2.2=cn:=⟨_,rfl⟩
       obtain ⟨kn,hkn⟩: ∃kn,P.R.next.2.1=kn:=⟨_,rfl⟩
       rw [hcn,hkn] at hnk hput hok hps
       have HPUT:=Lib.hid hput
       have HPS:=Lib.hid hps
       have HOK:=Lib.hid hok.1
       have HNK:=Lib.hid hnk
       have HCN:=Lib.hid hcn
       have HKN:=Lib.hid hkn
       clear hf hput hpl hok hps hnk hcn hkn
       go_wp2_with fail
       refine hat.mono ?_
       rintro e w3 ⟨rfl,hb3⟩
       have hx3:=HX2.out.below hb3 HX2.out.lt
       have HB3:=Lib.hid (HB2.out.trans (hb3.mono HB2.out.size))
       have hC3:=HC2.out.below hb3
       have c1:=hC3.c1
       have hnx:=xnext_any hC3.ring
       rw [HCN.out,HKN.out] at hnx
       have HX3:=Lib.hid hx3
       have HC3:=Lib.hid hC3
       clear hat e0 e1 e2 e3 hb3 hx3 hC3
       unfold fIx
       go_wp2_with fail
       refine hnx.mono ?_
       rintro e w4 ⟨rfl,hr4,hm4⟩
       have h4:=HC3.out.ringed hr4 hm4 HOK.out
       have hx4:=HX3.out.mod hm4 (by rintro (e|e);exact HNX.out _ (.inr (.inr (.inl rfl))) e.symm;exact HNX.out _ (.inr (.inr (.inr rfl))) e.symm)
       have HM4:=Lib.hid ((HOF.out _ HB3.out).trans (ring_own hm4) (T:=X.own) (fun _ h=>h) fun _ _ h=>h)
       have H4:=Lib.hid h4
       have d0:=hx4.d0
       have d1:=hx4.d1
       have d2:=hx4.d2
       have d3:=hx4.d3
       have d4:=hx4.d4
       have d5:=hx4.d5
       have d6:=hx4.d6
       clear hnx c1 hr4 hm4 h4 hx4
       rcases HNK.out with ⟨n1, -⟩|⟨k,n1,n2,n3, -⟩
       · subst n1
         have hput:=HPUT.out
         rw [if_pos (by decide)] at hput
         have HP2:=Lib.hid hput
         clear hput
         go_wp2
         go_ret
         rw [HP2.out]
         exact ⟨rfl,H4.out,HM4.out⟩
       · subst n1 n2
         have hput:=HPUT.out
         obtain ⟨s1,s2⟩:=HPS.out rfl
         rw [if_neg (by simp),Int.toNat_natCast] at hput
         rw [Int.toNat_natCast] at s1 s2
         have hset:=xset_any H4.out k s1 x hxi s2
         have HP2:=Lib.hid hput
         clear hput s1 s2 n3
         go_wp2_with fail
         refine hset.mono ?_
         rintro e w5 ⟨rfl,h5,hm5⟩
         have H5:=Lib.hid h5
         have HM5:=Lib.hid (HM4.out.trans hm5 (T:=X.own) (fun _ h=>h) fun _ _ h=>h)
         clear hset d0 d1 d2 d3 d4 d5 d6 h5 hm5
         go_wp2
         go_ret
         rw [HP2.out]
         exact ⟨rfl,H5.out,HM5.out⟩
end
section
variable {w w':World} {X:XA} {P:PC}
set_option maxRecDepth 20000 in
set_option maxHeartbeats 8000000 in
theorem xdrop_any (h:XAt w X P) (b:Blk):Calls Tryz.prog 56 #[.pointer (some ⟨X.c,0,none⟩), .agg (blC b)] w fun e w'=>e= .returned (.int .i64 ((PC.drop P b).2:Nat))∧XAt w' X (PC.drop P b).1∧Mod X.own w w':=by
 obtain ⟨w1,hw1⟩: ∃w1,w.alloc (.cells (blC b) 35)=w1:=⟨_,rfl⟩
 have hb1:Below w.heap.size w w1:=by rw [←hw1];exact (Below.refl _ _).alloc (Nat.le_refl _) _
 have hX:w1.heap[w.heap.size]?=some (.cells (blC b) 35 (0,0)):=by rw [←hw1];exact heap_alloc_at
 have hof: ∀w9,Below w.heap.size w w9→Mod X.own w w9:=fun w9 hb=>(Mod.of_below hb).mono (T:=X.own) fun b hb hS=>absurd hb (Nat.not_lt.2 hS)
 have h1:=h.below hb1
 have hat:=xat_any h1 b
 have d0:w1.cell? ⟨w.heap.size,0,none⟩=some (.int .i64 b.1):=cell_of hX rfl
 have d1:w1.cell? ⟨w.heap.size,1,none⟩=some (.int .i64 b.2.1):=cell_of hX rfl
 have d2:w1.cell? ⟨w.heap.size,2,none⟩=some (.int .i64 b.2.2):=cell_of hX rfl
 have HH:=Lib.hid h
 have HB1:=Lib.hid hb1
 have HOF:=Lib.hid hof
 clear h hb1 hX h1 hof
 go_enter Tryz.func56,Tryz.ntmps56
 go_upto_region 1 with fail
 simp only [hw1] at*
 clear hw1
 cases hf:P.find b with
 | none=>
   have hp:PC.drop P b=(P,11):=by unfold PC.drop;rw [hf]
   rw [hf] at hat
   have HP:=Lib.hid hp
   clear hp hf
   go_wp2_with fail
   refine hat.mono ?_
   rintro e w2 ⟨rfl,hb2⟩
   have HB2:=Lib.hid (HB1.out.trans (hb2.mono HB1.out.size))
   clear hat hb2 d0 d1 d2
   unfold fIx
   go_wp2
   go_ret
   rw [HP.out]
   exact ⟨rfl,HH.out.below HB2.out,HOF.out _ HB2.out⟩
 | some i=>
   obtain ⟨i1,i2,i3⟩:=(find_some HH.out.ok).1 hf
   have hp:PC.drop P b=(P.set i Slt.no,0):=by unfold PC.drop;rw [hf]
   rw [hf] at hat
   have HP:=Lib.hid hp
   have hi0:¬ ((i:Int)<0):=by omega
   have I1:=Lib.hid i1
   clear hp hf i1 i2 i3
   go_wp2_with fail
   refine hat.mono ?_
   rintro e w2 ⟨rfl,hb2⟩
   have HB2:=Lib.hid (HB1.out.trans (hb2.mono HB1.out.size))
   have hset:=xset_any (HH.out.below HB2.out) i I1.out Slt.no (.inl rfl) fun _ _ _ _=> .inr rfl
   clear hat hb2 d0 d1 d2
   unfold fIx
   go_wp2_with fail
   refine hset.mono ?_
   rintro e w3 ⟨rfl,h3,hm3⟩
   have H3:=Lib.hid h3
   have HM3:=Lib.hid ((HOF.out _ HB2.out).trans hm3 (T:=X.own) (fun _ h=>h) fun _ _ h=>h)
   clear hset h3 hm3
   go_wp2
   go_ret
   rw [HP.out]
   exact ⟨rfl,H3.out,HM3.out⟩
set_option maxRecDepth 20000 in
set_option maxHeartbeats 8000000 in
theorem xget_any (h:XAt w X P) (b:Blk):Calls Tryz.prog 18 #[.pointer (some ⟨X.c,0,none⟩), .agg (blC b)] w fun e w'=>e= .returned (.tuple #[.agg (slC (P.get b).2.1), .bool (P.get b).2.2])∧XAt w' X (P.get b).1∧Mod X.own w w':=by
 obtain ⟨w1,hw1⟩: ∃w1,(w.alloc (.cells (blC b) 35)).alloc (.cells #[.bool false, .int .i64 0, .int .i64 0, .int .i64 0, .int .u64 0, .bool false, .string {data:= #[]}] 38)=w1:=⟨_,rfl⟩
 have hb0:Below w.heap.size w (w.alloc (.cells (blC b) 35)):=(Below.refl _ _).alloc (Nat.le_refl _) _
 have hb1:Below w.heap.size w w1:=by rw [←hw1];exact hb0.alloc (by simp) _
 have hB:Lies w1 w.heap.size 0 (blC b):=by
   rw [←hw1]
   exact (lies_of heap_alloc_at).below' ((Below.refl _ _).alloc (Nat.le_refl _) _) (by simp)
 have hZ:w1.heap[w.heap.size+1]?=some (.cells (slC Slt.no) 38 (0,0)):=by
   rw [←hw1]
   have:=heap_alloc_at (w:=w.alloc (.cells (blC b) 35)) (o:= .cells #[.bool false, .int .i64 0, .int .i64 0, .int .i64 0, .int .u64 0, .bool false, .string {data:= #[]}] 38)
   rw [World.size_alloc] at this
   exact this
 have hs1:w1.heap.size=w.heap.size+2:=by rw [←hw1];simp
 have hof: ∀w9,Below w.heap.size w w9→Mod X.own w w9:=fun w9 hb=>(Mod.of_below hb).mono (T:=X.own) fun b hb hS=>absurd hb (Nat.not_lt.2 hS)
 have h1:=h.below hb1
 have hat:=xat_any h1 b
 have hltw:=h.lt
 have d0:w1.cell? ⟨w.heap.size,0,none⟩=some (.int .i64 b.1):=hB 0 (by show 0<3;decide)
 have d1:w1.cell? ⟨w.heap.size,1,none⟩=some (.int .i64 b.2.1):=hB 1 (by show 1<3;decide)
 have d2:w1.cell? ⟨w.heap.size,2,none⟩=some (.int .i64 b.2.2):=hB 2 (by show 2<3;decide)
 have HH:=Lib.hid h
 have HB1:=Lib.hid hb1
 have HOF:=Lib.hid hof
 have HZ:=Lib.hid hZ
 have HS:=Lib.hid hs1
 have HLT:=Lib.hid hltw
 have hagn:=aggXs Slt.no
 have honn:=oneXs Slt.no
 clear h hb0 hb1 hB h1 hZ hs1 hof hltw
 go_enter Tryz.func18,Tryz.ntmps18
 go_upto_region 1 with fail
 simp only [hw1] at*
 clear hw1
 cases hf:P.find b with
 | none=>
   have hpg:P.get b=(P,Slt.no,false):=by unfold PC.get;rw [hf]
   rw [hf] at hat
   have HPG:=Lib.hid hpg
   clear hpg hf
   go_wp2_with fail
   refine hat.mono ?_
   rintro e w2 ⟨rfl,hb2⟩
   have HB2:=Lib.hid (HB1.out.trans (hb2.mono HB1.out.size))
   have hz2:w2.heap[w.heap.size+1]?=some (.cells (slC Slt.no) 38 (0,0)):=(hb2.block _ (by rw [HS.out];omega)).trans HZ.out
   clear hat hb2 d0 d1 d2
   unfold fIx
   go_wp2_with (first
     | ((with_reducible refine wpList_exec rfl (exec_buildA (vals:= []) ?_ built_xlt) ?_);rfl;go_frame)
     | ((with_reducible refine wpList_storeB hagn ?_ ?_ hz2 rfl honn ?_);rfl;rfl;(intro w9 hh9 hm9;have HH9:=Lib.hid hh9;have HM9:=Lib.hid hm9;clear hh9 hm9);go_frame)
     | fail)
   refine bodyPost_ret (results_cellT rfl _ rfl hagn (lies_of HH9.out)) rfl ?_
   refine ⟨by rw [HPG.out];rfl,?_,?_⟩
   · rw [HPG.out]
     exact (HH.out.below HB2.out).mod HM9.out fun x hx e=>by
       have:=HLT.out x hx
       have e:x=w.heap.size+1:=e
       omega
   · exact (HOF.out _ HB2.out).trans HM9.out (fun x h=>h) (fun x hx e=>by
       have e:x=w.heap.size+1:=e
       omega)
 | some i=>
   have hpg:P.get b=({P with R:=P.R.touch i},P.at_ i,true):=by unfold PC.get;rw [hf]
   obtain ⟨i1,i2,i3⟩:=(find_some HH.out.ok).1 hf
   have hok2:({P with R:=P.R.touch i}:PC).Ok:=by
     have:=HH.out.ok.get b
     rw [hpg] at this
     exact this
   rw [hf] at hat
   have hi0:¬ ((i:Int)<0):=by omega
   have HPG:=Lib.hid hpg
   have HOK2:=Lib.hid hok2
   have I1:=Lib.hid i1
   have I2:=Lib.hid i2
   clear hpg hf i1 i2 i3 hok2
   go_wp2_with fail
   refine hat.mono ?_
   rintro e w2 ⟨rfl,hb2⟩
   have HB2:=Lib.hid (HB1.out.trans (hb2.mono HB1.out.size))
   have hz2:w2.heap[w.heap.size+1]?=some (.cells (slC Slt.no) 38 (0,0)):=(hb2.block _ (by rw [HS.out];omega)).trans HZ.out
   have hC2:=HH.out.below HB2.out
   have c1:=hC2.c1
   have hto:=xdo_2 hC2.ring i (by rw [hC2.ok.len];exact I1.out) (by rw [hC2.ok.used i I1.out];exact I2.out)
   have HZ2:=Lib.hid hz2
   have HC2:=Lib.hid hC2
   clear hat hb2 d0 d1 d2 hz2 hC2
   unfold fIx
   go_wp2_with fail
   refine hto.mono ?_
   rintro e w3 ⟨rfl,hr3,hm3⟩
   have hm3':Mod (fun b=>b=X.rb∨b=X.pb) w2 w3:=hm3.mono fun b _ h=> .inr h
   have hC3:=HC2.out.ringed hr3 hm3' HOK2.out
   have hz3:=hm3.heap HZ2.out fun e=>by
     have e:w.heap.size+1=X.pb:=e
     have:=HLT.out X.pb (.inr (.inr (.inr rfl)))
     omega
   obtain ⟨y,hy⟩: ∃y,P.at_ i=y:=⟨_,rfl⟩
   have hLy:Lies w3 X.sb (i*7) (slC y):=xslots_lies hC3.slots (by rw [←hy];exact at_get I1.out)
   obtain ⟨n,hn⟩: ∃n,P.L.length=n:=⟨_,rfl⟩
   have c0:w3.cell? ⟨X.c,0,none⟩=some (.slice (some ⟨X.sb,0,none⟩) n n):=by rw [←hn];exact hC3.c0
   have i1:=I1.out
   have hi63:(i:Int)<(n:Int):=by omega
   have hi':i<n:=by omega
   have hn64:n≤64:=by have:=hC3.n64;simp only at this;omega
   have hagy:=aggXs y
   have hony:=oneXs y
   have HPG2:Hid (P.get b=({P with R:=P.R.touch i},y,true)):=Lib.hid (by rw [HPG.out,hy])
   have HC3:=Lib.hid hC3
   have HMM:=Lib.hid ((HOF.out _ HB2.out).trans (ring_own hm3') (T:=X.own) (fun _ h=>h) fun _ _ h=>h)
   have HS3:Hid (w.heap.size+2≤w3.heap.size):=Lib.hid (by have:=hm3.size;have h2:=HS.out;have h3:=HB2.out.size;have h4:=lt_of_block HZ2.out;omega)
   clear hto hr3 hm3 hm3' hC3 hy hn i1 c1
   go_wp2_with (first
     | ((with_reducible refine wpList_loadA hagy hLy ?_ ?_);rfl;go_frame)
     | ((with_reducible refine wpList_storeB hagy ?_ ?_ hz3 rfl hony ?_);rfl;rfl;(intro w9 hh9 hm9;have HH9:=Lib.hid hh9;have HM9:=Lib.hid hm9;clear hh9 hm9);go_frame)
     | fail)
   refine bodyPost_ret (results_cellT rfl _ rfl hagy (lies_of HH9.out)) rfl ?_
   refine ⟨by rw [HPG2.out];rfl,?_,?_⟩
   · rw [HPG2.out]
     exact HC3.out.mod HM9.out fun x hx e=>by
       have:=HLT.out x hx
       have e:x=w.heap.size+1:=e
       omega
   · exact HMM.out.trans HM9.out (fun x h=>h) (fun x hx e=>by
       have e:x=w.heap.size+1:=e
       omega)
end
end Go.Proofs.YtldimgchpgoggaaGreat
namespace Go.Tn.Pc
open Go.Tn Go.Tn.Slo Go.Tn.Ck Go.Tn.Dk
def PC.upto (c:PC) (q:Slt→Bool) (T:Slt→Slt) (k:Nat):PC:=c.turns ((List.range k).filter (c.isQ q)) T
section
variable {c:PC} {q:Slt→Bool} {T:Slt→Slt}
theorem upto_len (k:Nat):(c.upto q T k).L.length=c.L.length:=turns_len _ _ _
theorem upto_nodup (k:Nat):((List.range k).filter (c.isQ q)).Nodup:=List.nodup_range.sublist List.filter_sublist
theorem upto_lt {k:Nat} (hk:k≤c.L.length): ∀i∈(List.range k).filter (c.isQ q),i<c.L.length:=fun i hi=>by
 have:=List.mem_range.1 (List.mem_filter.1 hi).1
 omega
theorem upto_at {k:Nat} (hk:k≤c.L.length):(c.upto q T k).at_ k=c.at_ k:=by
 unfold PC.upto
 rw [turns_at T _ c (upto_lt hk) (upto_nodup k),if_neg]
 intro h
 have:=List.mem_range.1 (List.mem_filter.1 h).1
 omega
theorem upto_yes {k:Nat} (hk:k<c.L.length) (hq:c.isQ q k=true):c.upto q T (k+1)=(c.upto q T k).lay k (T (c.at_ k)):=by
 rw [←upto_at (q:=q) (T:=T) (Nat.le_of_lt hk)]
 unfold PC.upto
 rw [List.range_succ,List.filter_append,List.filter_cons_of_pos hq,List.filter_nil,turns_snoc]
theorem upto_no {k:Nat} (hq:c.isQ q k=false):c.upto q T (k+1)=c.upto q T k:=by
 unfold PC.upto
 rw [List.range_succ,List.filter_append,List.filter_cons_of_neg (by rw [hq];decide),List.filter_nil,List.append_nil]
theorem upto_ok (h:c.Ok) (hg: ∀i,i<c.L.length→c.isQ q i=true→SGood (c.at_ i) (T (c.at_ i))) {k:Nat} (hk:k≤c.L.length):(c.upto q T k).Ok:=
 turns_ok T _ c h (fun i hi=>⟨upto_lt hk i hi,hg i (upto_lt hk i hi) (List.mem_filter.1 hi).2⟩) (upto_nodup k)
end
end Go.Tn.Pc
namespace Go.Proofs.YtldimgchpgoggaaGreat
open Go.RowKit Go.Tn Go.Tn.Bt Go.Tn.Lp Go.Tn.Dk Go.Tn.Ino Go.Tn.Slo Go.Tn.Ck Go.Tn.Pc
section
variable {w w':World} {X:XA} {P:PC}
set_option maxRecDepth 20000 in
set_option maxHeartbeats 8000000 in
theorem xdropFile_any (h:XAt w X P) (f:Int×Int):Calls Tryz.prog 57 #[.pointer (some ⟨X.c,0,none⟩), .agg #[.int .i64 f.1, .int .i64 f.2]] w fun e w'=>e= .returned (.tuple #[])∧XAt w' X (P.map (qFile f) tNo)∧Mod X.own w w':=by
 obtain ⟨w1,hw1⟩: ∃w1,w.alloc (.cells #[.int .i64 f.1, .int .i64 f.2] 33)=w1:=⟨_,rfl⟩
 have hb1:Below w.heap.size w w1:=by rw [←hw1];exact (Below.refl _ _).alloc (Nat.le_refl _) _
 have hX:w1.heap[w.heap.size]?=some (.cells #[.int .i64 f.1, .int .i64 f.2] 33 (0,0)):=by rw [←hw1];exact heap_alloc_at
 have hof:Mod X.own w w1:=(Mod.of_below hb1).mono (T:=X.own) fun b hb hS=>absurd hb (Nat.not_lt.2 hS)
 have hnx:¬ X.own w.heap.size:=fun e=>by have:=h.lt _ e;omega
 obtain ⟨n,hn⟩: ∃n,P.L.length=n:=⟨_,rfl⟩
 have hn64:n≤64:=by have:=h.n64;omega
 have hagf:=aggFi f.1 f.2
 have H1:=Lib.hid (h.below hb1)
 have HX:=Lib.hid hX
 have HOF:=Lib.hid hof
 have HN:=Lib.hid hn
 have HNX:=Lib.hid hnx
 clear h hb1 hX hn hof hnx
 go_enter Tryz.func57,Tryz.ntmps57
 go_upto_region 1 with fail
 simp only [hw1] at*
 clear hw1
 go_wp2
 go_loopw [4] (fun iv wi=> ∃k:Nat,k≤n∧iv= .int .i64 k∧XAt wi X (P.upto (qFile f) tNo k)∧Mod X.own w1 wi) (fun iv _=>n-(intOf iv).toNat)
 case atStart=>exact ⟨0,Nat.zero_le _,rfl,H1.out,Mod.refl _ _⟩
 case round=>
   obtain ⟨k,hk,rfl,hCr,hm⟩:=hrel
   have hlen:=upto_len (c:=P) (q:=qFile f) (T:=tNo) k
   rw [HN.out] at hlen
   have HM:=Lib.hid hm
   have HC:=Lib.hid hCr
   have HLEN:=Lib.hid hlen
   have c0:wr.cell? ⟨X.c,0,none⟩=some (.slice (some ⟨X.sb,0,none⟩) n n):=by rw [←hlen];exact hCr.c0
   clear hm hlen
   by_cases hkn:k<n
   · have hkn':(k:Int)<(n:Int):=by omega
     obtain ⟨y,hy⟩: ∃y,P.at_ k=y:=⟨_,rfl⟩
     have hL:=hCr.slot (i:=k) (by rw [HLEN.out];exact hkn)
     rw [upto_at (by rw [HN.out];exact hk),hy] at hL
     have hxr:=HM.out.heap HX.out HNX.out
     have hagy:=aggFi y.blk.1 y.blk.2.1
     obtain ⟨u,hu⟩: ∃u,y.used=u:=⟨_,rfl⟩
     have hS:wr.drew.cell? ⟨X.c,0,none⟩=some (.slice (some ⟨X.sb,0,none⟩) n n)∧wr.drew.cell? ⟨X.sb,k*7,none⟩=some (.bool u)∧Lies wr.drew X.sb (k*7+1) #[.int .i64 y.blk.1, .int .i64 y.blk.2.1]∧Lies wr.drew w.heap.size 0 #[.int .i64 f.1, .int .i64 f.2]:=⟨c0,by rw [←hu];exact lies_used hL,lies_file hL,lies_of (w:=wr.drew) hxr⟩
     have hgt:Tryz.prog.eqGuardType Tryz.prog.depth 33=false:=by kernel_rfl
     have heq:=fun w=>eqFile w y.blk.1 y.blk.2.1 f.1 f.2
     have hq:P.isQ (qFile f) k=(u&&decide ((y.blk.1,y.blk.2.1)=(f.1,f.2))):=by
       unfold PC.isQ qFile
       rw [hy,hu]
     have HY:=Lib.hid hy
     have HQ:=Lib.hid hq
     clear hCr hy hL hxr hu hq
     go_upto_region 4 with fail
     clear c0
     refine wp_region_g (fun w'=>w'.cell? ⟨X.c,0,none⟩=some (.slice (some ⟨X.sb,0,none⟩) n n)∧w'.cell? ⟨X.sb,k*7,none⟩=some (.bool u)∧Lies w' X.sb (k*7+1) #[.int .i64 y.blk.1, .int .i64 y.blk.2.1]∧Lies w' w.heap.size 0 #[.int .i64 f.1, .int .i64 f.2]) [(0,1),(1,1),(2,1),(3,0),(4,1),(5,1),(6,1),(7,0),(8,1),(9,1),(10,1),(11,1),(12,0),(13,1),(14,1),(15,1),(16,1),(17,0),(18,0),(19,1),(20,1)] (by kernel_rfl) (by kernel_rfl) (by intro d v c a w h;cases d<;>exact h) ?_
     iterate 3 (refine g_take rfl rfl (fun K hK=> ?_);go_simp;refine hK _ ?_;clear hK K)
     refine g_read rfl rfl hS (fun w' h=>exec_load1 ⟨⟨_,Tryz.underlying60,rfl⟩⟩ rfl h.1) ?_
     iterate 3 (refine g_take rfl rfl (fun K hK=> ?_);go_simp;refine hK _ ?_;clear hK K)
     refine g_read rfl rfl hS (fun w' h=>exec_load1 ⟨⟨_,Tryz.underlying4,rfl⟩⟩ rfl h.2.1) ?_
     iterate 1 (refine g_take rfl rfl (fun K hK=> ?_);go_simp;refine hK _ ?_;clear hK K)
     have hdr:XAt wr.drew X (P.upto (qFile f) tNo k):=HC.out.below (Below.refl wr.heap.size wr).drew
     have HD:=Lib.hid hdr
     have HMD:=Lib.hid HM.out.drew
     clear hdr
     cases u with
     | false=>
       iterate 11 (refine g_offK rfl rfl (fun _=>hS) (fun K hK=> ?_);go_simp;refine hK _ ?_;clear hK K)
       iterate 1 (refine g_take rfl rfl (fun K hK=> ?_);go_simp;refine hK _ ?_;clear hK K)
       refine g_nil ?_
       clear hS heq
       have hup:=upto_no (T:=tNo) HQ.out
       have HUP:=Lib.hid hup
       clear hup
       go_wp2
       go_roundw
       case rel=>exact ⟨k+1,by omega,by go_num,by rw [HUP.out];exact HD.out,HMD.out⟩
       case measure=>simp [intOf];omega
     | true=>
       iterate 3 (refine g_take rfl rfl (fun K hK=> ?_);go_simp;refine hK _ ?_;clear hK K)
       refine g_read rfl rfl hS (fun w' h=>exec_load1 ⟨⟨_,Tryz.underlying60,rfl⟩⟩ rfl h.1) ?_
       iterate 4 (refine g_take rfl rfl (fun K hK=> ?_);go_simp;refine hK _ ?_;clear hK K)
       refine g_read rfl rfl hS (fun w' h=>exec_loadA hagy rfl h.2.2.1) ?_
       refine g_read rfl rfl hS (fun w' h=>exec_loadA hagf rfl h.2.2.2) ?_
       refine g_take rfl rfl (fun K hK=>⟨_,fun w=>exec_eqlS hgt heq rfl rfl w,?_⟩)
       refine hK _ ?_
       clear hK K hS heq
       obtain ⟨d,hd⟩: ∃d,decide ((y.blk.1,y.blk.2.1)=(f.1,f.2))=d:=⟨_,rfl⟩
       have hq:=HQ.out
       rw [hd] at hq ⊢
       cases d with
       | true=>
         have hup:=upto_yes (T:=tNo) (by rw [HN.out];exact hkn) hq
         have hse:=xset_any HD.out k (by rw [HLEN.out];exact hkn) Slt.no (.inl rfl) fun _ _ _ _=> .inr rfl
         have hly:(P.upto (qFile f) tNo k).set k Slt.no=P.upto (qFile f) tNo (k+1):=by
           rw [hup]
           unfold PC.lay tNo
           rw [if_pos rfl]
         rw [hly] at hse
         clear hup hly hq hd
         iterate 1 (refine g_take rfl rfl (fun K hK=> ?_);go_simp;refine hK _ ?_;clear hK K)
         refine g_nil ?_
         go_wp2_with fail
         refine hse.mono ?_
         rintro e w5 ⟨rfl,h5,hm5⟩
         have H5:=Lib.hid h5
         have HM5:=Lib.hid (HMD.out.trans hm5 (T:=X.own) (fun _ h=>h) fun _ _ h=>h)
         clear hse h5 hm5
         go_wp2
         go_roundw
         case rel=>exact ⟨k+1,by omega,by go_num,H5.out,HM5.out⟩
         case measure=>simp [intOf];omega
       | false=>
         have hup:=upto_no (T:=tNo) hq
         have HUP:=Lib.hid hup
         clear hup hq hd
         iterate 1 (refine g_take rfl rfl (fun K hK=> ?_);go_simp;refine hK _ ?_;clear hK K)
         refine g_nil ?_
         go_wp2
         go_roundw
         case rel=>exact ⟨k+1,by omega,by go_num,by rw [HUP.out];exact HD.out,HMD.out⟩
         case measure=>simp [intOf];omega
   · obtain rfl:k=n:=by omega
     have hmap:P.upto (qFile f) tNo k=P.map (qFile f) tNo:=by rw [←HN.out];rfl
     have HMP:=Lib.hid hmap
     clear hCr hmap
     go_wp2
     go_end0
     rw [←HMP.out]
     exact ⟨rfl,HC.out,HOF.out.trans HM.out (T:=X.own) (fun _ h=>h) fun _ _ h=>h⟩
end
end Go.Proofs.YtldimgchpgoggaaGreat
namespace Go.Tn.Pc
open Go.Tn Go.Tn.Slo Go.Tn.Ck Go.Tn.Dk
noncomputable def PC.retag (c:PC) (f:Int×Int) (v:Nat):PC×Nat:=if v≤1099511627775 then (c.map (qClean f) (tVer v),0) else (c,2)
end Go.Tn.Pc
namespace Go.Proofs.YtldimgchpgoggaaGreat
open Go.RowKit Go.Tn Go.Tn.Bt Go.Tn.Lp Go.Tn.Dk Go.Tn.Ino Go.Tn.Slo Go.Tn.Ck Go.Tn.Pc
theorem slots_setCell {L:List Slt} {i:Nat} {p:Slt} (h:L[i]?=some p) (v:Nat):(slotsC L).setIfInBounds (i*7+4) (.int .u64 (v:Nat))=slotsC (L.set i {p with ver:=v}):=by
 unfold slotsC
 rw [flatMap_set (k:=7) (fun _=>rfl) L i 4 p {p with ver:=v} (.int .u64 (v:Nat)) h (by decide) rfl]
 simp
section
variable {w w':World} {X:XA} {P:PC}
theorem XAt.vered (h:XAt w X P) {i:Nat} (hi:i<P.L.length) {v:Nat} (hne:tVer v (P.at_ i)≠Slt.no) (hok:(P.lay i (tVer v (P.at_ i))).Ok):XAt (w.setCell ⟨X.sb,i*7+4,none⟩ (.int .u64 (v:Nat))) X (P.lay i (tVer v (P.at_ i))):=by
 have hm:=(Mod.refl (fun b=>b=X.sb) w).setCell ⟨X.sb,i*7+4,none⟩ (.int .u64 (v:Nat)) (fun _=>rfl)
 have e:P.lay i (tVer v (P.at_ i))={P with L:=P.L.set i (tVer v (P.at_ i))}:=by
   unfold PC.lay
   rw [if_neg hne]
 rw [e] at hok ⊢
 refine ⟨?_,?_,h.ring.mod hm (fun e=>h.ne.2.2.2.1 e.symm) (fun e=>h.ne.2.2.2.2 e.symm),h.ne,hok⟩
 · rw [hm.heap h.blk h.ne.1]
   unfold xcacheC
   simp
 · rw [heap_setCell_at h.slots,slots_setCell (at_get hi)]
   rfl
set_option maxRecDepth 20000 in
set_option maxHeartbeats 8000000 in
theorem xretag_any (h:XAt w X P) (f:Int×Int) (v:Nat):Calls Tryz.prog 58 #[.pointer (some ⟨X.c,0,none⟩), .agg #[.int .i64 f.1, .int .i64 f.2], .int .u64 (v:Nat)] w fun e w'=>e= .returned (.int .i64 ((P.retag f v).2:Nat))∧XAt w' X (P.retag f v).1∧Mod X.own w w':=by
 obtain ⟨w1,hw1⟩: ∃w1,w.alloc (.cells #[.int .i64 f.1, .int .i64 f.2] 33)=w1:=⟨_,rfl⟩
 have hb1:Below w.heap.size w w1:=by rw [←hw1];exact (Below.refl _ _).alloc (Nat.le_refl _) _
 have hX:w1.heap[w.heap.size]?=some (.cells #[.int .i64 f.1, .int .i64 f.2] 33 (0,0)):=by rw [←hw1];exact heap_alloc_at
 have hof:Mod X.own w w1:=(Mod.of_below hb1).mono (T:=X.own) fun b hb hS=>absurd hb (Nat.not_lt.2 hS)
 have hnx:¬ X.own w.heap.size:=fun e=>by have:=h.lt _ e;omega
 obtain ⟨n,hn⟩: ∃n,P.L.length=n:=⟨_,rfl⟩
 have hn64:n≤64:=by have:=h.n64;omega
 have hagf:=aggFi f.1 f.2
 have H1:=Lib.hid (h.below hb1)
 have HX:=Lib.hid hX
 have HOF:=Lib.hid hof
 have HN:=Lib.hid hn
 have HNX:=Lib.hid hnx
 have HPO:=Lib.hid h.ok
 clear h hb1 hX hn hof hnx
 go_enter Tryz.func58,Tryz.ntmps58
 go_upto_region 1 with fail
 simp only [hw1] at*
 clear hw1
 by_cases hv:(v:Int)>1099511627775
 · have hr:P.retag f v=(P,2):=by unfold PC.retag;rw [if_neg (by omega)]
   have HR:=Lib.hid hr
   clear hr
   go_wp2
   go_ret
   rw [HR.out]
   exact ⟨rfl,H1.out,HOF.out⟩
 have hr:P.retag f v=(P.map (qClean f) (tVer v),0):=by unfold PC.retag;rw [if_pos (by omega)]
 have HR:=Lib.hid hr
 have hgood: ∀i,i<P.L.length→P.isQ (qClean f) i=true→SGood (P.at_ i) (tVer v (P.at_ i)):=fun i hi hq=>by
   have hu:(P.at_ i).used=true:=by
     unfold PC.isQ at hq
     rw [Bool.and_eq_true] at hq
     exact hq.1
   exact good_ver (HPO.out.is _ (List.mem_of_getElem? (at_get hi))) hu (by omega)
 have HG:=Lib.hid hgood
 clear hr hgood
 go_wp2
 go_loopw [7] (fun iv wi=> ∃k:Nat,k≤n∧iv= .int .i64 k∧XAt wi X (P.upto (qClean f) (tVer v) k)∧Mod X.own w1 wi) (fun iv _=>n-(intOf iv).toNat)
 case atStart=>exact ⟨0,Nat.zero_le _,rfl,H1.out,Mod.refl _ _⟩
 case round=>
   obtain ⟨k,hk,rfl,hCr,hm⟩:=hrel
   have hlen:=upto_len (c:=P) (q:=qClean f) (T:=tVer v) k
   rw [HN.out] at hlen
   have HM:=Lib.hid hm
   have HC:=Lib.hid hCr
   have HLEN:=Lib.hid hlen
   have c0:wr.cell? ⟨X.c,0,none⟩=some (.slice (some ⟨X.sb,0,none⟩) n n):=by rw [←hlen];exact hCr.c0
   clear hm hlen
   by_cases hkn:k<n
   · have hkn':(k:Int)<(n:Int):=by omega
     obtain ⟨y,hy⟩: ∃y,P.at_ k=y:=⟨_,rfl⟩
     have hL:=hCr.slot (i:=k) (by rw [HLEN.out];exact hkn)
     rw [upto_at (by rw [HN.out];exact hk),hy] at hL
     have hxr:=HM.out.heap HX.out HNX.out
     have hagy:=aggFi y.blk.1 y.blk.2.1
     obtain ⟨u,hu⟩: ∃u,y.used=u:=⟨_,rfl⟩
     obtain ⟨dy,hdy⟩: ∃u,y.dirty=u:=⟨_,rfl⟩
     have hS:wr.drew.cell? ⟨X.c,0,none⟩=some (.slice (some ⟨X.sb,0,none⟩) n n)∧wr.drew.cell? ⟨X.sb,k*7,none⟩=some (.bool u)∧Lies wr.drew X.sb (k*7+1) #[.int .i64 y.blk.1, .int .i64 y.blk.2.1]∧Lies wr.drew w.heap.size 0 #[.int .i64 f.1, .int .i64 f.2]∧wr.drew.cell? ⟨X.sb,k*7+5,none⟩=some (.bool dy):=⟨c0,by rw [←hu];exact lies_used hL,lies_file hL,lies_of (w:=wr.drew) hxr,by rw [←hdy];exact lies_dirty hL⟩
     have hgt:Tryz.prog.eqGuardType Tryz.prog.depth 33=false:=by kernel_rfl
     have heq:=fun w=>eqFile w y.blk.1 y.blk.2.1 f.1 f.2
     have hq:P.isQ (qClean f) k=(u&&(decide ((y.blk.1,y.blk.2.1)=(f.1,f.2))&& !dy)):=by
       unfold PC.isQ qClean qFile
       rw [hy,hu,hdy]
     have HY:=Lib.hid hy
     have HQ:=Lib.hid hq
     have HU:=Lib.hid hu
     clear hCr hy hL hxr hu hq hdy
     go_upto_region 6 with fail
     clear c0
     refine wp_region_g (fun w'=>w'.cell? ⟨X.c,0,none⟩=some (.slice (some ⟨X.sb,0,none⟩) n n)∧w'.cell? ⟨X.sb,k*7,none⟩=some (.bool u)∧Lies w' X.sb (k*7+1) #[.int .i64 y.blk.1, .int .i64 y.blk.2.1]∧Lies w' w.heap.size 0 #[.int .i64 f.1, .int .i64 f.2]∧w'.cell? ⟨X.sb,k*7+5,none⟩=some (.bool dy)) [(0,1),(1,1),(2,1),(3,0),(4,1),(5,1),(6,1),(7,0),(8,1),(9,1),(10,1),(11,1),(12,0),(13,1),(14,1),(15,1),(16,1),(17,0),(18,0),(19,1),(20,1),(21,1),(22,1),(23,1),(24,1),(25,0),(26,1),(27,1),(28,1),(29,0),(30,1),(31,1)] (by kernel_rfl) (by kernel_rfl) (by intro d v c a w h;cases d<;>exact h) ?_
     iterate 3 (refine g_take rfl rfl (fun K hK=> ?_);go_simp;refine hK _ ?_;clear hK K)
     refine g_read rfl rfl hS (fun w' h=>exec_load1 ⟨⟨_,Tryz.underlying60,rfl⟩⟩ rfl h.1) ?_
     iterate 3 (refine g_take rfl rfl (fun K hK=> ?_);go_simp;refine hK _ ?_;clear hK K)
     refine g_read rfl rfl hS (fun w' h=>exec_load1 ⟨⟨_,Tryz.underlying4,rfl⟩⟩ rfl h.2.1) ?_
     iterate 1 (refine g_take rfl rfl (fun K hK=> ?_);go_simp;refine hK _ ?_;clear hK K)
     have hdr:XAt wr.drew X (P.upto (qClean f) (tVer v) k):=HC.out.below (Below.refl wr.heap.size wr).drew
     have HD:=Lib.hid hdr
     have HMD:=Lib.hid HM.out.drew
     clear hdr
     cases u with
     | false=>
       iterate 11 (refine g_offK rfl rfl (fun _=>hS) (fun K hK=> ?_);go_simp;refine hK _ ?_;clear hK K)
       iterate 2 (refine g_take rfl rfl (fun K hK=> ?_);go_simp;refine hK _ ?_;clear hK K)
       iterate 9 (refine g_offK rfl rfl (fun _=>hS) (fun K hK=> ?_);go_simp;refine hK _ ?_;clear hK K)
       iterate 1 (refine g_take rfl rfl (fun K hK=> ?_);go_simp;refine hK _ ?_;clear hK K)
       refine g_nil ?_
       clear hS heq
       have hup:=upto_no (T:=tVer v) HQ.out
       have HUP:=Lib.hid hup
       clear hup
       go_wp2
       go_roundw
       case rel=>exact ⟨k+1,by omega,by go_num,by rw [HUP.out];exact HD.out,HMD.out⟩
       case measure=>simp [intOf];omega
     | true=>
       iterate 3 (refine g_take rfl rfl (fun K hK=> ?_);go_simp;refine hK _ ?_;clear hK K)
       refine g_read rfl rfl hS (fun w' h=>exec_load1 ⟨⟨_,Tryz.underlying60,rfl⟩⟩ rfl h.1) ?_
       iterate 4 (refine g_take rfl rfl (fun K hK=> ?_);go_simp;refine hK _ ?_;clear hK K)
       refine g_read rfl rfl hS (fun w' h=>exec_loadA hagy rfl h.2.2.1) ?_
       refine g_read rfl rfl hS (fun w' h=>exec_loadA hagf rfl h.2.2.2.1) ?_
       refine g_take rfl rfl (fun K hK=>⟨_,fun w=>exec_eqlS hgt heq rfl rfl w,?_⟩)
       refine hK _ ?_
       clear hK K heq
       obtain ⟨d,hd⟩: ∃d,decide ((y.blk.1,y.blk.2.1)=(f.1,f.2))=d:=⟨_,rfl⟩
       have hq:=HQ.out
       rw [hd] at hq ⊢
       cases d with
       | true=>
         iterate 2 (refine g_take rfl rfl (fun K hK=> ?_);go_simp;refine hK _ ?_;clear hK K)
         iterate 3 (refine g_take rfl rfl (fun K hK=> ?_);go_simp;refine hK _ ?_;clear hK K)
         refine g_read rfl rfl hS (fun w' h=>exec_load1 ⟨⟨_,Tryz.underlying60,rfl⟩⟩ rfl h.1) ?_
         iterate 3 (refine g_take rfl rfl (fun K hK=> ?_);go_simp;refine hK _ ?_;clear hK K)
         refine g_read rfl rfl hS (fun w' h=>exec_load1 ⟨⟨_,Tryz.underlying4,rfl⟩⟩ rfl h.2.2.2.2) ?_
         cases dy with
         | true=>
           have hup:=upto_no (T:=tVer v) hq
           have HUP:=Lib.hid hup
           clear hup hq hd
           iterate 2 (refine g_take rfl rfl (fun K hK=> ?_);go_simp;refine hK _ ?_;clear hK K)
           refine g_nil ?_
           clear hS
           go_wp2
           go_roundw
           case rel=>exact ⟨k+1,by omega,by go_num,by rw [HUP.out];exact HD.out,HMD.out⟩
           case measure=>simp [intOf];omega
         | false=>
           have hat:=upto_at (q:=qClean f) (T:=tVer v) (c:=P) (k:=k) (by rw [HN.out];exact hk)
           have hup:=upto_yes (T:=tVer v) (by rw [HN.out];exact hkn) hq
           have hoks:=upto_ok HPO.out HG.out (k:=k+1) (by rw [HN.out];exact hkn)
           rw [hup, ←hat] at hoks
           have hver:=HD.out.vered (i:=k) (v:=v) (by rw [HLEN.out];exact hkn) (fun e=>by
             have e2:=congrArg Slt.used e
             rw [hat] at e2
             have e3:(P.at_ k).used=false:=e2
             rw [HY.out,HU.out] at e3
             cases e3) hoks
           rw [hat, ←hup] at hver
           have hmv:=(HMD.out.setCell ⟨X.sb,k*7+4,none⟩ (.int .u64 (v:Nat)) (fun _=> .inr (.inl rfl)))
           have HV:=Lib.hid hver
           have HMV:=Lib.hid hmv
           clear hup hq hd hat hoks hver hmv
           iterate 2 (refine g_take rfl rfl (fun K hK=> ?_);go_simp;refine hK _ ?_;clear hK K)
           refine g_nil ?_
           have c0:=hS.1
           have f4:wr.drew.frozen? ⟨X.sb,k*7+4,none⟩=false:=free_of HD.out.slots
           have c4: ∃z,wr.drew.cell? ⟨X.sb,k*7+4,none⟩=some z:=by
             have:=HD.out.slot (i:=k) (by rw [HLEN.out];exact hkn) 4 (by show 4<7;decide)
             exact ⟨_,this⟩
           obtain ⟨z,c4⟩:=c4
           clear hS
           go_wp2
           go_roundw
           case rel=>exact ⟨k+1,by omega,by go_num,HV.out,HMV.out⟩
           case measure=>simp [intOf];omega
       | false=>
         have hup:=upto_no (T:=tVer v) hq
         have HUP:=Lib.hid hup
         clear hup hq hd
         iterate 2 (refine g_take rfl rfl (fun K hK=> ?_);go_simp;refine hK _ ?_;clear hK K)
         iterate 9 (refine g_offK rfl rfl (fun _=>hS) (fun K hK=> ?_);go_simp;refine hK _ ?_;clear hK K)
         iterate 1 (refine g_take rfl rfl (fun K hK=> ?_);go_simp;refine hK _ ?_;clear hK K)
         refine g_nil ?_
         clear hS
         go_wp2
         go_roundw
         case rel=>exact ⟨k+1,by omega,by go_num,by rw [HUP.out];exact HD.out,HMD.out⟩
         case measure=>simp [intOf];omega
   · obtain rfl:k=n:=by omega
     have hmap:P.upto (qClean f) (tVer v) k=P.map (qClean f) (tVer v):=by rw [←HN.out];rfl
     have HMP:=Lib.hid hmap
     clear hCr hmap
     go_wp2
     go_ret
     rw [HR.out, ←HMP.out]
     exact ⟨rfl,HC.out,HOF.out.trans HM.out (T:=X.own) (fun _ h=>h) fun _ _ h=>h⟩
end
end Go.Proofs.YtldimgchpgoggaaGreat
