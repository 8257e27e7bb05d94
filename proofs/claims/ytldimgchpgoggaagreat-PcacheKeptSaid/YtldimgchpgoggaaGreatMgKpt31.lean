import Derived.Test.YtldimgchpgoggaaGreatMgKpt30
import Derived.Test.YtldimgchpgoggaaGreatMgKpt11
namespace Go.Tn.Pc
open Go.Tn Go.Tn.Slo Go.Tn.Ck Go.Tn.Dk
def PC.lay (c:PC) (i:Nat) (x:Slt):PC:=if x=Slt.no then c.set i Slt.no else {c with L:=c.L.set i x}
def PC.turns (c:PC) (is:List Nat) (T:Slt→Slt):PC:=is.foldl (fun c i=>c.lay i (T (c.at_ i))) c
def SGood (x y:Slt):Prop:=y.is∧(y=Slt.no∨x.used=true∧y.used=true∧y.blk=x.blk∧y.dirty=x.dirty)
theorem lay_len (c:PC) (i:Nat) (x:Slt):(c.lay i x).L.length=c.L.length:=by
 unfold PC.lay
 split
 · exact set_len _ _ _
 · simp
theorem lay_num (c:PC) (i:Nat) (x:Slt):(c.lay i x).num=c.num:=by
 unfold PC.lay
 split<;>rfl
theorem lay_hand (c:PC) (i:Nat) (x:Slt):(c.lay i x).R.hand=c.R.hand:=by
 unfold PC.lay
 split
 · exact set_hand _ _ _
 · rfl
theorem setL_at {c:PC} {i:Nat} (hi:i<c.L.length) (x:Slt) (j:Nat):({c with L:=c.L.set i x}:PC).at_ j=if j=i then x else c.at_ j:=set_at hi x j
theorem lay_at {c:PC} {i:Nat} (hi:i<c.L.length) (x:Slt) (j:Nat):(c.lay i x).at_ j=if j=i then x else c.at_ j:=by
 unfold PC.lay
 split
 · rename_i h
   rw [set_at hi,h]
 · exact setL_at hi x j
theorem lay_find {c:PC} {i:Nat} (hi:i<c.L.length) {x:Slt} (h1:(c.at_ i).used=true) (h2:x.used=true) (h3:x.blk=(c.at_ i).blk) (b:Blk):({c with L:=c.L.set i x}:PC).find b=c.find b:=by
 unfold PC.find
 have hl:({c with L:=c.L.set i x}:PC).L.length=c.L.length:=by simp
 rw [hl]
 congr 1
 funext j
 rw [setL_at hi]
 by_cases hj:j=i
 · rw [if_pos hj,hj,h1,h2,h3]
 · rw [if_neg hj]
theorem lay_ok {c:PC} (h:c.Ok) {i:Nat} (hi:i<c.L.length) {x:Slt} (hg:SGood (c.at_ i) x):(c.lay i x).Ok:=by
 unfold PC.lay
 split
 · exact h.set hi (.inl rfl) fun _ _ _ _=> .inr rfl
 · rename_i hn
   obtain ⟨h0,h1⟩:=hg
   obtain ⟨h1,h2,h3, -⟩:=h1.resolve_left hn
   have hl:({c with L:=c.L.set i x}:PC).L.length=c.L.length:=by simp
   refine ⟨h.len.trans hl.symm,fun y hy=> ?_,fun j k hj hk=> ?_,fun j hj=> ?_⟩
   · rcases List.mem_or_eq_of_mem_set hy with hy|hy
     · exact h.is y hy
     · rw [hy];exact h0
   · rw [hl] at hj hk
     have e1: ∀j,(({c with L:=c.L.set i x}:PC).at_ j).used=(c.at_ j).used∧(({c with L:=c.L.set i x}:PC).at_ j).blk=(c.at_ j).blk:=fun j=>by
       rw [setL_at hi]
       by_cases hj:j=i
       · rw [if_pos hj,hj,h1,h2,h3]
         exact ⟨rfl,rfl⟩
       · rw [if_neg hj]
         exact ⟨rfl,rfl⟩
     rw [(e1 j).1,(e1 k).1,(e1 j).2,(e1 k).2]
     exact h.uniq j k hj hk
   · rw [hl] at hj
     show (c.R.at_ j).used=_
     rw [setL_at hi,h.used j hj]
     by_cases hji:j=i
     · rw [if_pos hji,hji,h1,h2]
     · rw [if_neg hji]
theorem turns_at (T:Slt→Slt): ∀(is:List Nat) (c:PC),(∀i∈is,i<c.L.length)→is.Nodup→ ∀j,(c.turns is T).at_ j=if j∈is then T (c.at_ j) else c.at_ j
 | [],c,_,_,j=>by rw [if_neg (by simp)];rfl
 |i::is,c,hl,hn,j=>by
   have hi:=hl i (by simp)
   have hn':=List.nodup_cons.1 hn
   have e:c.turns (i::is) T=(c.lay i (T (c.at_ i))).turns is T:=rfl
   rw [e,turns_at T is _ (fun k hk=>by rw [lay_len];exact hl k (by simp [hk])) hn'.2 j,lay_at hi]
   by_cases hj:j=i
   · subst hj
     rw [if_neg hn'.1,if_pos rfl,if_pos (by simp)]
   · rw [if_neg hj]
     by_cases hm:j∈is
     · rw [if_pos hm,if_pos (by simp [hm])]
     · rw [if_neg hm,if_neg (by simp [hm,hj])]
theorem turns_len (T:Slt→Slt): ∀(is:List Nat) (c:PC),(c.turns is T).L.length=c.L.length
 | [],c=>rfl
 |i::is,c=>(turns_len T is _).trans (lay_len _ _ _)
theorem turns_num (T:Slt→Slt): ∀(is:List Nat) (c:PC),(c.turns is T).num=c.num
 | [],c=>rfl
 |i::is,c=>(turns_num T is _).trans (lay_num _ _ _)
theorem turns_hand (T:Slt→Slt): ∀(is:List Nat) (c:PC),(c.turns is T).R.hand=c.R.hand
 | [],c=>rfl
 |i::is,c=>(turns_hand T is _).trans (lay_hand _ _ _)
theorem turns_snoc (T:Slt→Slt) (c:PC) (is:List Nat) (i:Nat):c.turns (is++ [i]) T=(c.turns is T).lay i (T ((c.turns is T).at_ i)):=by
 unfold PC.turns
 rw [List.foldl_append]
 rfl
theorem turns_ok (T:Slt→Slt): ∀(is:List Nat) (c:PC),c.Ok→(∀i∈is,i<c.L.length∧SGood (c.at_ i) (T (c.at_ i)))→is.Nodup→(c.turns is T).Ok
 | [],c,h,_,_=>h
 |i::is,c,h,hl,hn=>by
   have hi:=hl i (by simp)
   have hn':=List.nodup_cons.1 hn
   have e:c.turns (i::is) T=(c.lay i (T (c.at_ i))).turns is T:=rfl
   rw [e]
   refine turns_ok T is _ (lay_ok h hi.1 hi.2) (fun k hk=> ?_) hn'.2
   have hk':=hl k (by simp [hk])
   have hki:k≠i:=fun e=>hn'.1 (e ▸ hk)
   rw [lay_len,lay_at hi.1,if_neg hki]
   exact hk'
def PC.turnD (c:PC) (l:Lg) (d:Dsk) (is:List Nat) (T:Slt→Slt):PC×(Lg×Dsk×Nat):=
 if is= [] then (c,(l,d,0)) else (if (stWr l d (is.map fun i=>slotPut i (T (c.at_ i)))).2.2=0 then c.turns is T else c,stWr l d (is.map fun i=>slotPut i (T (c.at_ i))))
end Go.Tn.Pc
namespace Go.Proofs.YtldimgchpgoggaaGreat
open Go.RowKit Go.Tn Go.Tn.Bt Go.Tn.Lp Go.Tn.Dk Go.Tn.Ino Go.Tn.Slo Go.Tn.Ck Go.Tn.Pc
section
variable {w w':World} {F FD F' FD':Nat→Prop} {A:CA} {l l':Lg} {d d':Dsk} {P P':PC}
def FnT (w:World) (S:Nat→Prop) (g:Nat) (cb:Array Value) (T:Slt→Slt):Prop:= ∀w',Mod S w w'→ ∀x:Slt,x.is→Calls Tryz.prog g (#[.agg (slC x)]++cb) w' fun e w2=>e= .returned (.agg (slC (T x)))∧Below w'.heap.size w' w2
theorem CAt.lay (h:CAt w F FD A l d P) {i:Nat} (hi:i<P.L.length) {x:Slt} (h0:x≠Slt.no) (hg:SGood (P.at_ i) x) (hs:w'.heap[A.sb]?=some (.cells (slotsC (P.L.set i x)) 42 (0,0))) (hm:Mod (fun b=>b=A.sb) w w'):CAt w' F FD A l d {P with L:=P.L.set i x}:=by
 have hlog:LAt w' F A.g A.p l:=h.log.mod hm (fun b hb (e:b=A.sb)=>(h.own b (.inr (.inl e))).1 hb)
 have hdsk:DAt w' FD A.p d:=h.disk.mod hm (fun b hb (e:b=A.sb)=>(h.own b (.inr (.inl e))).2 hb)
 have hok:=lay_ok h.ok hi hg
 unfold PC.lay at hok
 rw [if_neg h0] at hok
 obtain ⟨h1,h2,h3, -⟩:=hg.2.resolve_left h0
 refine ⟨?_,hs,?_,h.ring.mod hm (fun e=>h.ne.2.2.2.2.1 e.symm),hlog,hdsk,h.ap,h.own,h.ne,hok,h.num⟩
 · have:=hm.heap h.blk h.ne.1
   rw [this]
   unfold cacheC
   simp
 · have hk:=h.wh.kept (hm.block _ h.wh.lt (fun e=>h.ne.2.2.2.1 e.symm))
   obtain ⟨L,clk,k1,k2,k3⟩:=hk.ex
   exact ⟨L,clk,k1,k2,fun k=>by rw [k3,lay_find hi h1 h2 h3]⟩
set_option maxRecDepth 20000 in
set_option maxHeartbeats 8000000 in
theorem pturn_any (h:CAt w F FD A l d P) (hf:Fit l d) (v:Value) (is:List Nat) (hv:LSl enI 1 w v (is.map fun (i:Nat)=>(i:Int))) (hvn: ∀r,v.ownBlock=some r→¬ A.all F FD r) (g:Nat) (eg: ∀args w,(callFunc g args).run Tryz.prog w= .ok (.enter g args) w) (cb:Array Value) (T:Slt→Slt) (hto:FnT w (A.all F FD) g cb T)
   (hg: ∀i∈is,i<P.L.length∧SGood (P.at_ i) (T (P.at_ i))) (hn:is.Nodup):Calls Tryz.prog 67 #[.pointer (some ⟨A.c,0,none⟩),v, .func (.func g) #[] cb] w fun e w'=>CW w F FD A (P.turnD l d is T) e w':=by
 have hil:is.length≤64:=by
   have h1:is.length≤(List.range P.L.length).length:=nodup_len hn List.nodup_range fun i hi=>List.mem_range.2 (hg i hi).1
   rw [List.length_range] at h1
   have h2:=h.ring.hi
   have h3:=h.ok.len
   omega
 have hltw:=h.lt
 obtain ⟨ao,cap,rfl,hvl⟩:=id hv
 rw [List.length_map] at*
 have HV:=Lib.hid hv
 have HVN:=Lib.hid hvn
 have HC:=Lib.hid h
 have HF:=Lib.hid hf
 have HTO:=Lib.hid hto
 have HG:=Lib.hid hg
 have HN:=Lib.hid hn
 have HLT:=Lib.hid hltw
 clear hv hvn h hf hto hg hn hltw hvl
 go_enter Tryz.func67,Tryz.ntmps67
 by_cases h0:is= []
 · subst h0
   go_wp2
   go_ret
   exact ⟨rfl,CSt.same HC.out (Mod.refl _ _)⟩
 · have hl0:0<is.length:=List.length_pos_iff.2 h0
   have H0:=Lib.hid h0
   have heq:((is.length:Int)==0)=false:=beq_eq_false_iff_ne.2 (by omega)
   clear h0
   obtain ⟨b4,o4,rfl,hb4,hco⟩: ∃b4 o4,ao=some ⟨b4,o4,none⟩∧b4<w.heap.size∧ ∀(k i:Nat),is[k]?=some i→w.cell? ⟨b4,o4+k,none⟩=some (.int .i64 (i:Nat)):=by
     obtain ⟨ao',cap',e1, -, -,e4⟩:=HV.out
     obtain ⟨rfl, -⟩:ao=ao'∧cap=cap':=by simpa using e1
     obtain ⟨b4,o4,e5,e6,e7⟩:=e4 (by simpa using hl0)
     refine ⟨b4,o4,e5,e6,fun k i hi=> ?_⟩
     have:=e7 k (i:Int) (by rw [List.getElem?_map,hi];rfl) 0 (by simp [enI])
     simpa [enI] using this
   have hb4n:¬ A.all F FD b4:=HVN.out b4 rfl
   have HCO:=Lib.hid hco
   have HB4N:=Lib.hid hb4n
   clear hco hb4n
   obtain ⟨N,hN⟩: ∃N,P.L.length=N:=⟨_,rfl⟩
   have hN64:N≤64:=by
     have h2:=HC.out.ring.hi
     have h3:=HC.out.ok.len
     omega
   have HNN:=Lib.hid hN
   clear hN
   go_wp2
   go_loopw [7,21] (fun ov iv wi=> ∃k:Nat,k≤is.length∧iv= .int .i64 k∧Below w.heap.size w wi∧PtsO w.heap.size wi ov ((is.take k).map fun i=>slotPut i (T (P.at_ i)))) (fun _ iv _=>is.length-(intOf iv).toNat)
   case atStart=>exact ⟨0,Nat.zero_le _,rfl,Below.refl _ _, [],rfl,LOut.nil (Nat.le_refl _),fun x hx=>by cases hx⟩
   case round=>
     obtain ⟨k,hk,rfl,hb,hO⟩:=hrel
     have HB:=Lib.hid hb
     have HO:=Lib.hid hO
     clear hb hO
     by_cases hkl:k<is.length
     · have hkl':(k:Int)<(is.length:Int):=by omega
       obtain ⟨i,hi⟩: ∃i,is[k]?=some i:=⟨_,List.getElem?_eq_getElem hkl⟩
       obtain ⟨hiN,hgi⟩:=HG.out i (List.mem_of_getElem? hi)
       rw [HNN.out] at hiN
       have hiN':(i:Int)<(N:Int):=by omega
       have q0:wr.cell? ⟨b4,o4+k,none⟩=some (.int .i64 (i:Nat)):=(HB.out.cell (p:=⟨b4,o4+k,none⟩) hb4).trans (HCO.out k i hi)
       have htk:(is.take (k+1)).map (fun i=>slotPut i (T (P.at_ i)))=(is.take k).map (fun i=>slotPut i (T (P.at_ i)))++ [slotPut i (T (P.at_ i))]:=by
         rw [List.take_add_one,hi]
         simp
       have hCr:=HC.out.below HB.out
       have c1:wr.cell? ⟨A.c,1,none⟩=some (.slice (some ⟨A.sb,0,none⟩) N N):=by rw [←HNN.out];exact hCr.c1
       obtain ⟨y,hy⟩: ∃y,P.at_ i=y:=⟨_,rfl⟩
       have hLy:Lies wr A.sb (i*7) (slC y):=slots_lies hCr.slots (by rw [←hy];exact at_get (by rw [HNN.out];exact hiN))
       have hyi:y.is:=by rw [←hy];exact hCr.ok.is _ (List.mem_of_getElem? (at_get (by rw [HNN.out];exact hiN)))
       have hagy:=aggSl y
       have hcall:=HTO.out wr ((Mod.of_below HB.out).mono fun _ hx hS=>absurd hx (Nat.not_lt.2 hS)) y hyi
       rw [hy] at htk hgi
       have HTK:=Lib.hid htk
       have HGI:=Lib.hid hgi
       clear htk hgi hi hCr hy hyi
       go_wp2_with (first
         |((with_reducible refine wpList_loadA hagy hLy ?_ ?_);rfl;go_frame)
         |fail)
       refine hcall.mono ?_
       rintro e w2 ⟨rfl,hb2⟩
       have hpp:=pput1_any w2 i (by omega) (T y) HGI.out.1
       have HB2:=Lib.hid hb2
       clear hcall hLy q0 hb2
       go_wp2_with fail
       refine hpp.mono ?_
       rintro e w5 ⟨a,n,c,rfl,hO5,hb5⟩
       have hagp:=aggPt (1+(i:Int)) (.slice a n c)
       have honp:(#[.int .i64 (1+(i:Int)), .slice a n c]:Array Value).all (·.oneCell')=true:=by simp [Value.oneCell']
       obtain ⟨w6,hw6⟩: ∃w6,w5.alloc (.cells #[.int .i64 (1+(i:Int)), .slice a n c] 113)=w6:=⟨_,rfl⟩
       have hLp:Lies w6 w5.heap.size 0 #[.int .i64 (1+(i:Int)), .slice a n c]:=by rw [←hw6];exact lies_of heap_alloc_at
       have hb56:Below w5.heap.size w5 w6:=by rw [←hw6];exact (Below.refl _ _).alloc (Nat.le_refl _) _
       have HO5:=Lib.hid hO5
       have HB5:=Lib.hid hb5
       have HB56:=Lib.hid hb56
       clear hpp hO5 hb5 hb56
       go_upto_region 8 with (first
         |((with_reducible refine wpList_storeA_new hagp ?_ honp ?_ ?_ ?_);rfl;rfl;rfl;go_frame)
         |fail)
       simp only [hw6] at*
       clear hw6
       obtain ⟨xs5,hxs5,hO4,hD4⟩:=HO.out
       have hol:xs5.length≤1000000000:=by
         have:=congrArg List.length hxs5
         rw [List.length_map,List.length_map,List.length_take] at this
         omega
       obtain ⟨a7,n7,c7,rfl⟩:=hO4.shape
       have hbr6:Below wr.heap.size wr w6:=(HB2.out.trans (HB5.out.mono HB2.out.size)).trans (HB56.out.mono (Nat.le_trans HB2.out.size HB5.out.size))
       have key: ∀w7 v w',Below w6.heap.size w6 w7→LOut enPt 2 113 w.heap.size w' v (xs5++ [(slotPut i (T y),(a,n,c))])→Mod (fun b=>(Value.slice a7 n7 c7).ownBlock=some b) w7 w'→(v.ownBlock=(Value.slice a7 n7 c7).ownBlock∨ ∃r,v.ownBlock=some r∧w7.heap.size≤r)→
           Below w.heap.size w w'∧PtsO w.heap.size w' v ((is.take (k+1)).map fun i=>slotPut i (T (P.at_ i))):=by
         intro w7 v w' hb7 hO' hm' hv'
         have hbr7:=hbr6.trans (hb7.mono hbr6.size)
         have hlo:=hO4.lo
         refine ⟨(HB.out.trans (hbr7.mono HB.out.size)).trans (hm'.below (Nat.le_trans HB.out.size hbr7.size) fun x hx e=>by have:=hlo x e;omega),xs5++ [(slotPut i (T y),(a,n,c))],?_,hO',?_⟩
         · rw [HTK.out,List.map_append,hxs5]
           rfl
         · have hO7:=HO5.out.below (HB56.out.trans (hb7.mono HB56.out.size))
           refine DatG.push (hD4.below hbr7) (hO4.below hbr7) (hO7.sl el8.len) (fun r hr=> ?_) hm' hv'
           have h1:=hO7.lo r hr
           have h2:=hO7.lt hr
           refine ⟨Nat.le_trans HB.out.size (Nat.le_trans HB2.out.size h1),h2,fun e=> ?_⟩
           have h3:=hO4.lt e
           have h4:=HB2.out.size
           omega
       have HKEY:=Lib.hid key
       have HO4:=Lib.hid (hO4.below hbr6)
       have hb7:Below w6.heap.size w6 (w6.alloc (.cells #[.int .i64 (1+(i:Int)), .slice a n c] 113)):=(Below.refl _ _).alloc (Nat.le_refl _) _
       have HB7:=Lib.hid hb7
       clear hxs5 hO4 hD4 hbr6 key hb7
       go_wp2_with (first
         |((with_reducible refine wpList_loadA hagp hLp ?_ ?_);rfl;go_frame)
         |((with_reducible refine wpList_exec rfl (exec_buildSliceA (k:=2) (cells:= #[.int .i64 (1+(i:Int)), .slice a n c]) Tryz.underlying117 (by kernel_rfl) (by omega) (by omega) rfl ?_) ?_);rfl;go_frame)
         |((with_reducible refine wpList_append1Y elPt HO4.out ((slotPut i (T y),(a,n,c))) hol ?_ ?_ ?_ ?_);rfl;rfl;rfl;(intro v9 w9 hO9 hm9 hv9;have HR:=Lib.hid (HKEY.out _ v9 w9 (Below.refl _ _) hO9 hm9 hv9);clear hO9 hm9 hv9);go_frame)
         |fail)
       have hr:=HR.out
       go_roundw
       case rel=>exact ⟨k+1,by omega,by go_num,hr.1,hr.2⟩
       case measure=>simp [intOf];omega
     · obtain rfl:k=is.length:=by omega
       clear hk hkl
       have hO':=HO.out
       rw [List.take_length] at hO'
       have hCr:=HC.out.below HB.out
       have hb0:=HB.out
       have hcl:=HLT.out
       have hpb:PtB wr (fun b=>F b∨FD b) u7 (is.map fun i=>slotPut i (T (P.at_ i))):=hO'.b fun b hb=> .inl (hcl b (hb.elim (fun h=> .inr (.inl h)) (fun h=> .inr (.inr h))))
       obtain ⟨⟨l8,d8,cd⟩,hr8⟩: ∃r,stWr l d (is.map fun i=>slotPut i (T (P.at_ i)))=r:=⟨_,rfl⟩
       have hwr:Calls Tryz.prog 65 #[.pointer (some ⟨A.c,0,none⟩),u7] wr fun e w'=>CPost wr F FD A (l8,d8,cd) P e w':=by
         rw [←hr8]
         exact pwrite_any hCr HF.out.ok _ _ hpb (fun q hq y hy=>by
           obtain ⟨j, -,rfl⟩:=List.mem_map.1 hq
           exact Slt.sec_lt _ y hy) (by rw [List.length_map];omega) HF.out.Q (HF.out.ok2 _)
       have HR8:=Lib.hid hr8
       clear hO' hCr hb0 hcl hpb HO hr8
       go_wp2_with fail
       refine hwr.mono ?_
       rintro e w8 hp
       have hst:=hp.st
       obtain ⟨he8,F8,FD8,hC8,hm8,h18,h28⟩:=hp
       have he8:e= .returned (.int .i64 (cd:Nat)):=he8
       subst he8
       obtain ⟨wq,hwq⟩: ∃wq,wq=wr:=⟨_,rfl⟩
       subst hwq
       have HST:=Lib.hid (CSt.ahead HB.out hst)
       have HM8:=Lib.hid hm8
       have H18:=Lib.hid h18
       have H28:=Lib.hid h28
       have HC8:=Lib.hid hC8
       clear hwr hst hm8 h18 h28 hC8
       by_cases h0:cd=0
       · subst h0
         have he:P.turnD l d is T=(P.turns is T,(l8,d8,0)):=by
           unfold PC.turnD
           rw [if_neg H0.out,HR8.out,if_pos rfl]
         have HE:=Lib.hid he
         have hmo: ∀wi,Mod A.own w8 wi→Mod (A.all F FD) w wi:=fun wi hm=>
           (((Mod.of_below HB.out).mono (T:=A.all F FD) fun _ hx hS=>absurd hx (Nat.not_lt.2 hS)).trans HM8.out (T:=A.all F FD) (fun _ h=>h) (fun b _ hb=> .inr hb)).trans hm (fun _ h=>h) (fun b _ hb=> .inl hb)
         have HMO:=Lib.hid hmo
         clear he hmo
         go_wp2
         go_loopw [55] (fun iv wi=> ∃k:Nat,k≤is.length∧iv= .int .i64 k∧CAt wi F8 FD8 A l8 d8 (P.turns (is.take k) T)∧Mod A.own w8 wi) (fun iv _=>is.length-(intOf iv).toNat)
         case atStart=>exact ⟨0,Nat.zero_le _,rfl,HC8.out,Mod.refl _ _⟩
         case round=>
           obtain ⟨k,hk,rfl,hCi,hmi⟩:=hrel
           have HCI:=Lib.hid hCi
           have HMI:=Lib.hid hmi
           clear hCi hmi
           by_cases hkl:k<is.length
           · have hkl':(k:Int)<(is.length:Int):=by omega
             obtain ⟨i,hi⟩: ∃i,is[k]?=some i:=⟨_,List.getElem?_eq_getElem hkl⟩
             obtain ⟨hiN,hgi⟩:=HG.out i (List.mem_of_getElem? hi)
             have hmw:=HMO.out wr HMI.out
             have q0:wr.cell? ⟨b4,o4+k,none⟩=some (.int .i64 (i:Nat)):=cell_mod (HCO.out k i hi) hmw HB4N.out
             have htk:is.take (k+1)=is.take k++ [i]:=by rw [List.take_add_one,hi];rfl
             have hnt:i∉is.take k:=fun hm=>by
               obtain ⟨j,hj⟩:=List.getElem?_of_mem hm
               rw [List.getElem?_take] at hj
               split at hj
               · have hjk:=(List.getElem?_inj (by omega) HN.out).1 (hj.trans hi.symm)
                 omega
               · cases hj
             have hat:(P.turns (is.take k) T).at_ i=P.at_ i:=by
               rw [turns_at T _ P (fun j hj=>(HG.out j (List.mem_of_mem_take hj)).1) (HN.out.sublist (List.take_sublist _ _)),if_neg hnt]
             have hln:(P.turns (is.take k) T).L.length=P.L.length:=turns_len _ _ _
             have hsn:=turns_snoc T P (is.take k) i
             rw [hat, ←htk] at hsn
             generalize P.turns (is.take k) T=P7 at*
             have c1:wr.cell? ⟨A.c,1,none⟩=some (.slice (some ⟨A.sb,0,none⟩) N N):=by rw [←HNN.out, ←hln];exact HCI.out.c1
             rw [←hln] at hiN
             rw [←hat] at hgi hsn
             obtain ⟨y,hy⟩: ∃y,P7.at_ i=y:=⟨_,rfl⟩
             have hLy:Lies wr A.sb (i*7) (slC y):=slots_lies HCI.out.slots (by rw [←hy];exact at_get hiN)
             have hyi:y.is:=by rw [←hy];exact HCI.out.ok.is _ (List.mem_of_getElem? (at_get hiN))
             have hagy:=aggSl y
             have hcall:=HTO.out wr hmw y hyi
             rw [hy] at hsn
             obtain ⟨z,hz⟩: ∃z,T y=z:=⟨_,rfl⟩
             rw [hz] at hcall hsn
             rw [hy,hz] at hgi
             have hiN':(i:Int)<(N:Int):=by rw [←HNN.out];omega
             have HIN:=Lib.hid hiN
             have HGI:=Lib.hid hgi
             have HSN:=Lib.hid hsn
             have HLN:=Lib.hid (hln.trans HNN.out)
             have HYE:=Lib.hid hy
             clear htk hgi hi hyi hmw hnt hat hsn hiN hln hz hy
             go_wp2_with (first
               |((with_reducible refine wpList_loadA hagy hLy ?_ ?_);rfl;go_frame)
               |fail)
             refine hcall.mono ?_
             rintro e w2 ⟨rfl,hb2⟩
             have hagz:=aggSl z
             have honz:=oneSl z
             obtain ⟨w6,hw6⟩: ∃w6,w2.alloc (.cells (slC z) 42)=w6:=⟨_,rfl⟩
             have hz6:w6.heap[w2.heap.size]?=some (.cells (slC z) 42 (0,0)):=by rw [←hw6];exact heap_alloc_at
             have hb26:Below w2.heap.size w2 w6:=by rw [←hw6];exact (Below.refl _ _).alloc (Nat.le_refl _) _
             have hb06:Below wr.heap.size wr w6:=hb2.trans (hb26.mono hb2.size)
             have HZ6:=Lib.hid hz6
             have HB06:=Lib.hid hb06
             have HS2:=Lib.hid hb2.size
             have hfr:=sfree_any w6 z
             clear hcall hLy q0 hb2 hz6 hb26 hb06 c1
             go_upto_region 19 with (first
               |((with_reducible refine wpList_storeA_new hagz ?_ honz ?_ ?_ ?_);rfl;rfl;rfl;go_frame)
               |fail)
             simp only [hw6] at*
             clear hw6
             have hLz:=lies_of HZ6.out
             by_cases hno:z=Slt.no
             · rw [decide_eq_true hno] at hfr
               have HNO:=Lib.hid hno
               clear hno
               go_upto_region 20 with (first
                 |((with_reducible refine wpList_loadA hagz hLz ?_ ?_);rfl;go_frame)
                 |(go_at_call 28;refine hfr.mono ?_;rintro e w7 ⟨rfl,hb7⟩;have HB7:=Lib.hid hb7;clear hb7)
                 |fail)
               have hC7:=HCI.out.below (HB06.out.trans (HB7.out.mono HB06.out.size))
               have hz7:=(HB7.out.block _ (lt_of_block HZ6.out)).trans HZ6.out
               have hLz7:=lies_of hz7
               have hset:=pset_any hC7 i HIN.out z HGI.out.1 (fun _ _ _ _=> .inr HNO.out)
               clear hfr hLz hC7 hz7
               go_wp2_with (first
                 |((with_reducible refine wpList_loadA hagz hLz7 ?_ ?_);rfl;go_frame)
                 |fail)
               refine hset.mono ?_
               rintro e w9 ⟨rfl,hC9,hm9⟩
               have hlay:P7.set i z=P.turns (is.take (k+1)) T:=by
                 rw [HSN.out]
                 unfold PC.lay
                 rw [if_pos HNO.out,HNO.out]
               rw [hlay] at hC9
               have hm09:Mod A.own w8 w9:=(HMI.out.trans (Mod.of_below (HB06.out.trans (HB7.out.mono HB06.out.size))) (T:=A.own) (fun _ h=>h) (fun b hb h=>absurd (Nat.lt_of_lt_of_le hb HMI.out.size) (Nat.not_lt.2 h))).trans hm9 (fun _ h=>h) (fun b _ h=>h)
               have HC9:=Lib.hid hC9
               have HM9:=Lib.hid hm09
               clear hset hLz7 hC9 hm9 hm09 hlay
               go_wp2
               go_roundw
               case rel=>exact ⟨k+1,by omega,by go_num,HC9.out,HM9.out⟩
               case measure=>simp [intOf];omega
             · rw [decide_eq_false hno] at hfr
               have HNO:=Lib.hid hno
               clear hno
               go_upto_region 21 with (first
                 |((with_reducible refine wpList_loadA hagz hLz ?_ ?_);rfl;go_frame)
                 |(go_at_call 28;refine hfr.mono ?_;rintro e w7 ⟨rfl,hb7⟩;have HB7:=Lib.hid hb7;clear hb7)
                 |fail)
               have hb07:=HB06.out.trans (HB7.out.mono HB06.out.size)
               have hC7:=HCI.out.below hb07
               have hz7:=(HB7.out.block _ (lt_of_block HZ6.out)).trans HZ6.out
               have hzn:w2.heap.size≠A.sb:=fun e=>by
                 have:=HCI.out.lt A.sb (.inl (.inr (.inl rfl)))
                 have:=HS2.out
                 omega
               have hiN2:i<N:=by omega
               have hS:w7.drew.cell? ⟨A.c,1,none⟩=some (.slice (some ⟨A.sb,0,none⟩) N N)∧Lies w7.drew w2.heap.size 0 (slC z):=⟨by
                 have:=hC7.c1
                 rw [HLN.out] at this
                 exact this,lies_of (w:=w7.drew) hz7⟩
               have hst:=fun (ρ:Operand→Value) (ty:TypeId) (pos:String) (after:Array Edge) (x' y':Operand) (hx':ρ x'= .pointer (some ⟨A.sb,i*7,none⟩)) (hy':ρ y'= .agg (slC z))=>
                 exec_storeA (P:=Tryz.prog) (dst:=none) (g:=none) (ty:=ty) (pos:=pos) (after:=after) (w:=w7.drew) hagz hx' hy' hC7.slots (by rw [slots_size,HLN.out];show i*7+7≤N*7;omega) (fun v hv=>by rw [Array.all_eq_true'] at honz;exact honz v (by simpa using hv))
               have hs9:=heap_setCells_at (slC z).toList (i*7) w7.drew (slotsC P7.L) hC7.slots
               rw [slots_set (by rw [HLN.out];exact hiN2)] at hs9
               have hm9:Mod (fun b=>b=A.sb) w7 _:=Mod.setCells (S:=fun b=>b=A.sb) (fun _=>rfl) (slC z).toList (i*7) w7.drew ((Mod.refl _ w7).drew)
               refine wp_region_x (fun w'=>w'.cell? ⟨A.c,1,none⟩=some (.slice (some ⟨A.sb,0,none⟩) N N)∧Lies w' w2.heap.size 0 (slC z)) [(0,1),(1,1),(2,1),(3,0),(4,1),(5,0),(6,1),(7,3)] (by kernel_rfl) (by kernel_rfl) (by intro d v c a w h;cases d<;>exact h) ?_
               iterate 3 (refine x_take rfl (fun K hK=> ?_);go_simp;refine hK _ ?_;clear hK K)
               refine x_read rfl hS (fun w' h=>exec_load1 ⟨⟨_,Tryz.underlying45,rfl⟩⟩ rfl h.1) ?_
               iterate 1 (refine x_take rfl (fun K hK=> ?_);go_simp;refine hK _ ?_;clear hK K)
               refine x_read rfl hS (fun w' h=>exec_loadA hagz rfl h.2) ?_
               iterate 1 (refine x_take rfl (fun K hK=> ?_);go_simp;refine hK _ ?_;clear hK K)
               refine x_skip rfl (hst _ _ _ _ _ _ rfl rfl) ?_
               refine x_nil ?_
               have hC9:=hC7.lay HIN.out HNO.out (by rw [HYE.out];exact HGI.out) hs9 hm9
               have hlay:({P7 with L:=P7.L.set i z}:PC)=P.turns (is.take (k+1)) T:=by
                 rw [HSN.out]
                 unfold PC.lay
                 rw [if_neg HNO.out]
               rw [hlay] at hC9
               have hm09:=(HMI.out.trans (Mod.of_below hb07) (T:=A.own) (fun _ h=>h) (fun b hb h=>absurd (Nat.lt_of_lt_of_le hb HMI.out.size) (Nat.not_lt.2 h))).trans hm9 (T:=A.own) (fun _ h=>h) (fun b _ h=> .inr (.inl h))
               have HC9:=Lib.hid hC9
               have HM9:=Lib.hid hm09
               clear hC9 hm9 hm09 hlay hS hst hs9 hC7 hz7 hb07 hfr hLz hzn
               generalize w7.drew.setCells A.sb (i*7) (slC z).toList=w9 at*
               go_wp2
               go_roundw
               case rel=>exact ⟨k+1,by omega,by go_num,HC9.out,HM9.out⟩
               case measure=>simp [intOf];omega
           · obtain rfl:k=is.length:=by omega
             have hC9:=HCI.out
             rw [List.take_length] at hC9
             have hfin:CSt w F FD A (P.turns is T,(l8,d8,0)) wr:=CSt.ahead HB.out ⟨F8,FD8,hC9,(HM8.out.mono (T:=A.all F FD) fun b _ hb=> .inr hb).trans HMI.out (fun _ h=>h) (fun b _ hb=> .inl hb),H18.out,H28.out⟩
             have HFIN:=Lib.hid hfin
             clear hC9 hfin hk hkl
             go_wp2
             go_ret
             rw [HE.out]
             exact ⟨rfl,HFIN.out⟩
       · have hne:((cd:Int) !=0)=true:=by rw [bne_iff_ne];omega
         have he:P.turnD l d is T=(P,(l8,d8,cd)):=by
           unfold PC.turnD
           rw [if_neg H0.out,HR8.out,if_neg h0]
         have HE:=Lib.hid he
         clear h0 he
         go_wp2
         go_ret
         rw [HE.out]
         exact ⟨rfl,HST.out⟩
end
end Go.Proofs.YtldimgchpgoggaaGreat
namespace Go.Tn.Pc
open Go.Tn Go.Tn.Slo Go.Tn.Ck Go.Tn.Dk
def PC.isQ (c:PC) (q:Slt→Bool) (i:Nat):Bool:=(c.at_ i).used&&q (c.at_ i)
def PC.sel (c:PC) (q:Slt→Bool):List Nat:=(List.range c.L.length).filter (c.isQ q)
structure ByBlk (c:PC) (q:Slt→Bool) (is:List Nat):Prop where
 mem: ∀i,i∈is↔i<c.L.length∧(c.at_ i).used=true∧q (c.at_ i)=true
 ord:is.Pairwise fun i j=>bLess (c.at_ i).blk (c.at_ j).blk
theorem mem_sel {c:PC} {q:Slt→Bool} {i:Nat}:i∈c.sel q↔i<c.L.length∧(c.at_ i).used=true∧q (c.at_ i)=true:=by
 unfold PC.sel PC.isQ
 rw [List.mem_filter,List.mem_range,Bool.and_eq_true]
theorem sel_nodup (c:PC) (q:Slt→Bool):(c.sel q).Nodup:=List.nodup_range.sublist List.filter_sublist
theorem ByBlk.nodup {c:PC} {q:Slt→Bool} {is:List Nat} (h:ByBlk c q is):is.Nodup:=h.ord.imp fun {a b} hab e=>by
 subst e
 exact bLess_irrefl _ hab
theorem ByBlk.perm {c:PC} {q:Slt→Bool} {is:List Nat} (h:ByBlk c q is):is.Perm (c.sel q):=
 (List.perm_ext_iff_of_nodup h.nodup (sel_nodup c q)).2 fun i=>by rw [h.mem,mem_sel]
theorem blk_total {c:PC} (h:c.Ok) {i j:Nat} (hi:i<c.L.length) (hj:j<c.L.length) (h1:(c.at_ i).used=true) (h2:(c.at_ j).used=true) (hn:i≠j):bLess (c.at_ i).blk (c.at_ j).blk∨bLess (c.at_ j).blk (c.at_ i).blk:=
 bLess_total fun e=>hn (h.uniq i j hi hj h1 h2 e)
structure SBy (S:Slt→Prop) (xs:List Slt):Prop where
 mem: ∀x,x∈xs↔S x
 ord:xs.Pairwise fun x y=>bLess x.blk y.blk
theorem SBy.nodup {S:Slt→Prop} {xs:List Slt} (h:SBy S xs):xs.Nodup:=h.ord.imp fun {a b} hab e=>by
 subst e
 exact bLess_irrefl _ hab
theorem SBy.uniq {S:Slt→Prop} {xs ys:List Slt} (h:SBy S xs) (k:SBy S ys):xs=ys:=
 List.Perm.eq_of_pairwise (le:=fun a b=>bLess a.blk b.blk) (fun a b _ _ h1 h2=>absurd (bLess_trans h1 h2) (bLess_irrefl _)) h.ord k.ord
   ((List.perm_ext_iff_of_nodup h.nodup k.nodup).2 fun x=>(h.mem x).trans (k.mem x).symm)
theorem SBy.congr {S T:Slt→Prop} {xs:List Slt} (h:SBy S xs) (e: ∀x,S x↔T x):SBy T xs:=⟨fun x=>(h.mem x).trans (e x),h.ord⟩
def PC.has (c:PC) (q:Slt→Bool) (x:Slt):Prop:=x∈c.L∧x.used=true∧q x=true
theorem ByBlk.slots {c:PC} {q:Slt→Bool} {is:List Nat} (h:ByBlk c q is):SBy (c.has q) (is.map c.at_):=by
 refine ⟨fun x=> ?_,List.pairwise_map.2 h.ord⟩
 rw [List.mem_map]
 constructor
 · rintro ⟨i,hi,rfl⟩
   obtain ⟨h1,h2,h3⟩:=(h.mem i).1 hi
   exact ⟨List.mem_of_getElem? (at_get h1),h2,h3⟩
 · rintro ⟨h1,h2,h3⟩
   obtain ⟨i,hi⟩:=List.getElem?_of_mem h1
   have e:=at_of hi
   exact ⟨i,(h.mem i).2 ⟨(List.getElem?_eq_some_iff.1 hi).1,by rw [e];exact h2,by rw [e];exact h3⟩,e⟩
theorem lay_at' (c:PC) (i:Nat) (x:Slt) (j:Nat):j≠i→(c.lay i x).at_ j=c.at_ j:=fun hj=>by
 by_cases hi:i<c.L.length
 · rw [lay_at hi,if_neg hj]
 · have e:(c.lay i x).L=c.L:=by
     unfold PC.lay PC.set
     split<;>exact List.set_eq_of_length_le (by omega)
   unfold PC.at_
   rw [e]
theorem lay_L (c:PC) (i:Nat) (x:Slt):(c.lay i x).L=c.L.set i x:=by
 unfold PC.lay
 split
 · rename_i h
   rw [h]
   rfl
 · rfl
theorem lay_R (c:PC) (i:Nat) (x:Slt):(c.lay i x).R=if x=Slt.no then c.R.drop i else c.R:=by
 unfold PC.lay
 split
 · unfold PC.set ringSet
   simp
 · rfl
theorem pc_ext {c d:PC} (h1:c.L=d.L) (h2:c.R=d.R) (h3:c.num=d.num):c=d:=by
 cases c;cases d
 simp only at h1 h2 h3
 subst h1 h2 h3
 rfl
theorem drop_comm (r:Rn) {i j:Nat} (h:i≠j):(r.drop i).drop j=(r.drop j).drop i:=by
 unfold Rn.drop Rn.put
 simp only
 rw [List.set_comm _ _ h]
theorem lay_comm (c:PC) {i j:Nat} (h:i≠j) (x y:Slt):(c.lay i x).lay j y=(c.lay j y).lay i x:=by
 refine pc_ext ?_ ?_ ?_
 · rw [lay_L,lay_L,lay_L,lay_L,List.set_comm _ _ h]
 · rw [lay_R,lay_R,lay_R,lay_R]
   by_cases hx:x=Slt.no
   · by_cases hy:y=Slt.no
     · rw [if_pos hx,if_pos hy]
       simp only [if_pos hx,if_pos hy]
       exact drop_comm _ h
     · simp only [if_pos hx,if_neg hy]
   · by_cases hy:y=Slt.no
     · simp only [if_neg hx,if_pos hy]
     · simp only [if_neg hx,if_neg hy]
 · rw [lay_num,lay_num,lay_num,lay_num]
theorem turns_perm {is js:List Nat} (h:is.Perm js) (c:PC) (T:Slt→Slt):c.turns is T=c.turns js T:=by
 unfold PC.turns
 refine h.foldl_eq' (fun i _ j _ c=> ?_) c
 by_cases hij:i=j
 · rw [hij]
 · rw [lay_at' _ _ _ _ (fun e=>hij e.symm),lay_at' _ _ _ _ hij]
   exact lay_comm c hij _ _
def PC.map (c:PC) (q:Slt→Bool) (T:Slt→Slt):PC:=c.turns (c.sel q) T
theorem map_of {c:PC} {q:Slt→Bool} {T:Slt→Slt} {is:List Nat} (h:ByBlk c q is):c.turns is T=c.map q T:=turns_perm h.perm c T
def qFile (f:Int×Int) (x:Slt):Bool:=decide ((x.blk.1,x.blk.2.1)=f)
def qClean (f:Int×Int) (x:Slt):Bool:=qFile f x&& !x.dirty
def qDirty (x:Slt):Bool:=x.dirty
def qAll (_:Slt):Bool:=true
def tNo (_:Slt):Slt:=Slt.no
def tVer (v:Nat) (x:Slt):Slt:={x with ver:=v}
theorem good_no (x:Slt):SGood x (tNo x):=⟨.inl rfl, .inl rfl⟩
theorem good_ver {x:Slt} (hx:x.is) (hu:x.used=true) {v:Nat} (hv:v≤1099511627775):SGood x (tVer v x):=by
 have hf:x.fits:=by
   rcases hx with rfl|h
   · cases hu
   · exact h
 exact ⟨.inr ⟨hf.used,hf.ino,hf.gen,hf.at_,hv,hf.size⟩, .inr ⟨hu,hu,rfl,rfl⟩⟩
end Go.Tn.Pc
