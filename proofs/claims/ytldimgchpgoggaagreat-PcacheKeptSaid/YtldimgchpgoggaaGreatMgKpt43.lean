/- Proved: PcacheKept returns true and its arguments read as they did. No condition: of all numbers and calls. -/
import Derived.Test.YtldimgchpgoggaaGreatMgKpt42
import Derived.Test.YtldimgchpgoggaaGreatMgKpt41
import Derived.Deep.DeepCutAuto
import Derived.Deep.CutBlock
import Derived.Test.YtldimgchpgoggaaGreatMgKpt21
import Derived.WalkKit
import Derived.Below
import Derived.ProofKit
import Derived.OpenShut
import Derived.ShutString
import Derived.ChangeOld
import Derived.Lib.SmallJoins
namespace Go.Proofs.YtldimgchpgoggaaGreat
open Go.RowKit Go.Tn Go.Tn.Bt Go.Tn.Lp Go.Tn.Dk Go.Tn.Ino Go.Tn.Slo Go.Tn.Ck Go.Tn.Pc
theorem like_of {R Q:PC} (hL:R.L=Q.L) (hn:R.num=Q.num):R.like Q:=by
 refine ⟨fun x=> ?_,hn⟩
 unfold PC.has
 rw [hL]
section
variable {i j n c p:Nat} {l:Lg} {d:Dsk} {P Q:PC} {T T0:List PC} {off:Bool} {w0 w w' w1:World} {FD G G' G0 S:Nat→Prop} {v:Value} {ls:List (XA×PC)} {B:Nat}
theorem KI.mono (h:KI i n T off P l d) (hj:i≤j):KI j n T off P l d:=⟨h.1.mono hj,h.2.1,by have:=h.2.2;omega⟩
theorem PSt.lastK (h:PSt w0 (KI i n (T0++ [Q]) false P) c p P G w):Q=P:=by
 obtain ⟨⟨A,F,FD,l,d,rfl,rfl,h3,⟨m1,m2,m3⟩,h5⟩,h6,h7,h8⟩:=h
 obtain ⟨S, -, -, -,k4⟩:=m1.live m2
 simpa using k4
theorem popenK (hd:DAt w FD p d) (hFD: ∀b,FD b→w0.heap.size≤b) (hw:Below w0.heap.size w0 w) (hk:KLive 20 i l d [homesB l d]) (hs:Shows (homesB l d) Q.L Q.num) (hg:PGood n Q) (hl:openB d 20=some l) (hf:newestB d 22<16777215) (hi:i≤900) (h1:1≤n) (h12:n≤12) (hdl:d.L.length=n+24) (hq:d.Q.length≤20000*i):
   Calls Tryz.prog 10 #[.pointer (some ⟨p,0,none⟩), .int .i64 20, .int .i64 n] w fun e w'=> ∃c G,e= .returned (.tuple #[.pointer (some ⟨c,0,none⟩), .int .i64 0])∧PSt w0 (KI i n [PC.opened Q.L Q.num n] false (PC.opened Q.L Q.num n)) c p (PC.opened Q.L Q.num n) G w'∧Below w.heap.size w w'∧ ∀b,G b→FD b∨w.heap.size≤b:=by
 obtain ⟨s1,s2⟩:=shows_home hs
 have hlen:=hg.len
 subst hlen
 have hop2:=popen_any hd 20 Q.L Q.num (by decide) (by decide) h1 (by omega) (by omega) hf hl (KInv.ok (.inl hk) (by omega)) hk.rn (Lays.of hg.ok) hg.num s1 s2
 refine hop2.mono ?_
 rintro e w' ⟨A,F,he,hC,hp,hb,hF,hown⟩
 have hR:PGood Q.L.length (PC.opened Q.L Q.num Q.L.length):=⟨hC.ok,hC.ring.hand,opened_len _ _ _,by rw [opened_num];exact hg.num⟩
 have hsR:Shows (homesB l d) (PC.opened Q.L Q.num Q.L.length).L (PC.opened Q.L Q.num Q.L.length).num:=by
   rw [opened_L,opened_num]
   exact hs
 have hM:PMode i Q.L.length l d (PC.opened Q.L Q.num Q.L.length) [PC.opened Q.L Q.num Q.L.length]:=⟨.inl ⟨_,hk,fun s hs'=>⟨_,List.mem_singleton.2 rfl,by rw [List.mem_singleton.1 hs'];exact hsR⟩,hsR,rfl⟩,hR,fun R hR'=>by rw [List.mem_singleton.1 hR'];exact hR,hdl,h1,h12⟩
 refine ⟨A.c,fun b=>A.all F FD b,he,⟨⟨A,F,FD,l,d,rfl,hp,hC,⟨hM,hk.on,hq⟩,fun _ h=>h⟩,fun b hb=> ?_,fun b hb=>hC.lt b hb,hw.trans (hb.mono hw.size)⟩,hb,fun b hb=> ?_⟩
 · have hs:=hw.size
   rcases hb with hb|hb|hb
   · have:=hown b hb;omega
   · have:=hF b hb;omega
   · exact hFD b hb
 · rcases hb with hb|hb|hb
   · exact .inr (hown b hb)
   · exact .inr (hF b hb)
   · exact .inl hb
theorem pgood_new (h1:1≤n):PGood n (PC.new n 0):=⟨new_ok _ _,by simp [PC.new];omega,by simp [PC.new],Nat.zero_le _⟩
theorem popenK_new (hd:DAt w FD p (newD (n+24))) (hFD: ∀b,FD b→w0.heap.size≤b) (hw:Below w0.heap.size w0 w) (h1:1≤n) (h2:n≤12):
   Calls Tryz.prog 10 #[.pointer (some ⟨p,0,none⟩), .int .i64 20, .int .i64 n] w fun e w'=> ∃c G,e= .returned (.tuple #[.pointer (some ⟨c,0,none⟩), .int .i64 0])∧PSt w0 (KI 0 n [PC.new n 0] false (PC.new n 0)) c p (PC.new n 0) G w'∧Below w.heap.size w w'∧ ∀b,G b→FD b∨w.heap.size≤b:=by
 have e:PC.opened (PC.new n 0).L (PC.new n 0).num n=PC.new n 0:=opened_new n
 have:=popenK hd hFD hw (kinit (by decide) (by omega) (by omega)) (Q:=PC.new n 0) (shows_new (slots:=n) (by omega)) (pgood_new h1) (open_new (by decide) (by omega)) (by rw [newest_zero _ _ (by omega)];decide) (by decide) h1 h2 (by simp [newD]) (by simp [newD])
 rw [e] at this
 exact this
theorem StX.away (h:StX B G w v ls) (hold:StX B G0 w1 v ls) (hm:Mod S w w') (hS: ∀b,S b→w1.heap.size≤b):StX B G w' v ls:=by
 refine ⟨h.off.mod hm fun r hr hs=> ?_,h.lo,h.ap,fun y hy=> ?_⟩
 · have:=hold.lt hr
   have:=hS r hs
   omega
 · obtain ⟨h1,h2⟩:=h.at_ y hy
   refine ⟨h1.mod hm fun b hb hs=> ?_,h2⟩
   have:=(hold.at_ y hy).1.lt b hb
   have:=hS b hs
   omega
def KR (w0:World) (p n i:Nat) (cv sv:Value) (wi:World):Prop:=
 ∃(P:PC) (G:Nat→Prop) (c:Nat) (off:Bool) (l0:List (XA×PC)) (y:XA×PC),cv= .pointer (some ⟨c,0,none⟩)∧StX w0.heap.size G wi sv (l0++ [y])∧PSt w0 (KI (2*i) n (l0.map (·.2)++ [y.2]) off P) c p P G wi∧l0.length≤i
theorem XAt.sl {X:XA} (h:XAt w X P):LSl enSl 7 w (.slice (some ⟨X.sb,0,none⟩) P.L.length P.L.length) P.L:=by
 have:=h.n64
 refine ⟨_,_,rfl,Nat.le_refl _,by unfold maxLen;omega,fun _=>⟨X.sb,0,rfl,lt_of_block h.slots,fun i x hx=> ?_⟩⟩
 rw [Nat.zero_add]
 exact xslots_lies h.slots hx
end
set_option maxRecDepth 40000 in
set_option maxHeartbeats 8000000 in
theorem kept_walk (w:World) (slots:Int) (v:Value) (ds:List DoX) (hds:DosX w v ds):Calls Tryz.prog 6 #[.int .i64 slots,v] w fun e w'=>e= .returned (.bool true)∧Below w.heap.size w w':=by
 have hwi:=within_any w slots 1 8
 obtain ⟨n,hn,hn1,hn2⟩: ∃k:Nat,within slots 1 8=(k:Int)∧1≤k∧k≤8:=by
   refine ⟨(within slots 1 8).toNat,?_,?_,?_⟩<;>unfold within<;>split<;>(try split)<;>omega
 rw [hn] at hwi
 have hfw:=few_any w v ds hds 35 (by decide)
 rw [show ((35:Nat):Int)=35 from rfl] at hfw
 obtain ⟨a0,n0,c0,rfl⟩: ∃a n c,v= .slice a n c:=by
   obtain ⟨xs, -,⟨ao,cap,rfl, -⟩, -⟩:=hds
   exact ⟨_,_,_,rfl⟩
 have hn2':(n:Int)≤8:=by omega
 have hn1':(1:Int)≤n:=by omega
 have HN:=Lib.hid (⟨hn1,hn2⟩:1≤n∧n≤8)
 clear hds hn hn1 hn2
 go_enter Tryz.func6,Tryz.ntmps6
 go_wp2_with (first
   | (go_at_call 7;refine hwi.mono ?_;rintro e wt ⟨rfl,hw⟩;obtain rfl:=hw.symm;clear hw)
   | fail)
 refine hfw.mono ?_
 rintro e wl ⟨v1,es,rfl,hD1,hel,hdt,hb1⟩
 obtain ⟨xs,hxs,hxL,hxD⟩:=hD1
 have hxl:xs.length=es.length:=by rw [←hxs];simp
 obtain ⟨ao,ca,rfl,x1,x2,x3⟩:=hxL
 rw [hxl] at x1 x3 ⊢
 unfold maxLen at x2
 have hb63:(es.length:Int)≤35:=by omega
 have hnw:=newd_any wl (n+24) (by omega) (by have:=HN.out.2;omega)
 rw [show ((n+24:Nat):Int)=(n:Int)+24 by omega] at hnw
 have HB1:=Lib.hid hb1
 have HXD:=Lib.hid hxD
 have HXL:=Lib.hid hxl
 have HX3:=Lib.hid x3
 have HEL:=Lib.hid hel
 clear hfw hwi hxs hxD hxl hb1 hdt x3 hel
 go_wp2_with fail
 refine hnw.mono ?_
 rintro e w2 ⟨p,FD,rfl,hD,hb2,hF⟩
 have hop:=popenK_new (w0:=wl) (n:=n) hD (fun b hb=>hF b hb) hb2 HN.out.1 (by have:=HN.out.2;omega)
 clear hnw hD hb2 hF
 go_wp2_with fail
 refine hop.mono ?_
 rintro e w3 ⟨c,G,rfl,hQ3, -, -⟩
 have hxn:=xnew_any w3 n HN.out.1 (by have:=HN.out.2;omega)
 have HQ3:=Lib.hid hQ3
 clear hop hQ3
 go_wp2_with fail
 refine hxn.mono ?_
 rintro e w4 ⟨X,rfl,hX4,hb4,hown⟩
 have hk0:KR wl p n 0 (.pointer (some ⟨c,0,none⟩)) (.slice (some ⟨w4.heap.size,0,none⟩) 1 1) (w4.alloc (.cells #[.pointer (some ⟨X.c,0,none⟩)] 51)):=by
   have hq4:=HQ3.out.below hb4
   exact ⟨_,G,c,false, [],(X,PC.new n 0),rfl,StX.one (y:=(X,PC.new n 0)) hX4 rfl hq4.w.size hq4.hi (fun b hb hg=>by have h1:=HQ3.out.hi b hg;have h2:=hown b hb;omega),hq4.below ((Below.refl _ _).alloc (Nat.le_refl _) _),Nat.le_refl _⟩
 have HK0:=Lib.hid hk0
 clear hxn hX4 hb4 hown hk0 HQ3
 go_wp2_with fail
 go_loopw [7,9,10] (fun cv sv iv wi=> ∃i:Nat,i≤es.length∧iv= .int .i64 i∧KR wl p n i cv sv wi) (fun _ _ iv _=>es.length-(intOf iv).toNat)
 case atStart=>exact ⟨0,Nat.zero_le _,rfl,HK0.out⟩
 case round=>
   clear HK0
   obtain ⟨i,hi,rfl,hA⟩:=hrel
   by_cases hil:i<es.length
   · have hil':(i:Int)<(es.length:Int):=by omega
     obtain ⟨x,hx⟩: ∃x,xs[i]?=some x:=⟨_,List.getElem?_eq_getElem (by rw [HXL.out];exact hil)⟩
     obtain ⟨b4,o4,rfl,hb4,hc4⟩:=HX3.out (by omega)
     obtain ⟨P,G,c,off,l0,y,rfl,hst,hP,hl0⟩:=hA
     have hi35:i<35:=by have:=HEL.out;omega
     have hl36:l0.length≤35:=by omega
     have hfx0:=HXD.out x (List.mem_of_getElem? hx)
     have hkF: ∀r,(sv x.2).ownBlock=some r→0<x.1.keep.length→r<wl.heap.size:=fun r hr h0=>by
       obtain ⟨ao,cp,hv, -, -,h3⟩:=hfx0.keep
       obtain ⟨b,o,rfl,hlt, -⟩:=h3 h0
       rw [hv] at hr
       cases hr
       exact hlt
     have HKF:=Lib.hid hkF
     have HI35:=Lib.hid hi35
     have HLC:=Lib.hid (hc4 i x hx)
     have HB4:=Lib.hid hb4
     have HFX:=Lib.hid hfx0
     clear hx hc4 hfx0 hkF hi35
     obtain ⟨kd,hkd⟩: ∃k,x.1.kind=k:=⟨_,rfl⟩
     have HKD:=Lib.hid hkd
     obtain ⟨b8,o8,cp8,rfl,hcp8,hb8⟩:=hst.shape
     have hSm:(l0++ [y]).length=l0.length+1:=by simp
     rw [hSm] at hst hcp8 ⊢
     have em:((l0.length+1:Nat):Int)-1=(l0.length:Int):=by omega
     have em1:(l0.length:Int)<((l0.length+1:Nat):Int):=by omega
     have em2:((l0.length+1:Nat):Int)≤1000:=by omega
     have hcell:wr.cell? ⟨b8,o8+l0.length,none⟩=some (.pointer (some ⟨y.1.c,0,none⟩)):=hst.cell (j:=l0.length) (y:=y) (by simp)
     have hcp:=xcopy_any (hst.at_ y (by simp)).1
     have HST:=Lib.hid hst
     have HP:=Lib.hid hP
     clear hst hP hkd hSm
     go_wp2_with fail
     refine hcp.mono ?_
     rintro e w5 ⟨Y,rfl,hY,hb5,hown⟩
     have hYo: ∀b,Y.own b→¬ G b∧b≠b8:=fun b hb=>⟨fun hg=>by have h1:=HP.out.hi b hg;have h2:=hown b hb;omega,fun e=>by have h2:=hown b hb;omega⟩
     have hlow: ∀b,Y.own b→wl.heap.size≤b:=fun b hb=>by have h1:=HP.out.w.size;have h2:=hown b hb;omega
     have HP5:=Lib.hid (HP.out.below hb5)
     have HST5:=Lib.hid (HST.out.below hb5)
     have HLX5:Hid (Lies w5 b4 (o4+i*11) (doC x)):=Lib.hid (HLC.out.below' HP5.out.w HB4.out)
     have HY5:=Lib.hid hY
     have HYO:=Lib.hid hYo
     have HOWN:=Lib.hid hown
     have HLOW:=Lib.hid hlow
     have hb8':b8<w5.heap.size:=Nat.lt_of_lt_of_le hb8 hb5.size
     clear hcp hY hb5 hown hYo hlow hcell hb8
     have hlv:=HP5.out.liveK
     go_wp2_with fail
     refine hlv.mono ?_
     rintro e w6 ⟨rfl,hw⟩
     obtain rfl:=hw.symm
     clear hw hlv
     have q0:w5.cell? ⟨b4,o4+i*11,none⟩=some (.int .i64 kd):=by
       rw [←HKD.out]
       exact HLX5.out 0 (by show 0<11;decide)
     by_cases hk1:kd=1
     · as_aux_lemma=>
         subst hk1
         have hLb:Lies w5 b4 (o4+i*11+3) (blC x.1.x.blk):=lies_doB HLX5.out
         have hagb:=aggBl x.1.x.blk
         have hge:=HP5.out.getK x.1.x.blk
         go_wp2_with (first
           | ((with_reducible refine wpList_loadA hagb hLb ?_ ?_);rfl;go_frame)
           | fail)
         refine hge.mono ?_
         rintro e w6 ⟨rfl,G6,hP6,hm6,hg6⟩
         have hst6:=HST5.out.mod hm6 (fun b h=> .inl h) hg6
         have hY6:=HY5.out.mod hm6 (fun b hb=>(HYO.out b hb).1)
         have hYo6: ∀b,Y.own b→¬ G6 b∧b≠b8:=fun b hb=>⟨fun hg=>(hg6 b hg).elim (HYO.out b hb).1 fun e=>by have:=HY5.out.lt b hb;omega,(HYO.out b hb).2⟩
         have hLb6:Lies w6 b4 (o4+i*11+3) (blC x.1.x.blk):=lies_doB (HLC.out.below' hP6.w HB4.out)
         have hxg:=xget_any hY6 x.1.x.blk
         have HST6:=Lib.hid hst6
         have HP6:=Lib.hid hP6
         have HYO6:=Lib.hid hYo6
         clear hge hLb hst6 hP6 hm6 hg6 hYo6 hY6
         go_wp2_with (first
           | ((with_reducible refine wpList_loadA hagb hLb6 ?_ ?_);rfl;go_frame)
           | fail)
         refine hxg.mono ?_
         rintro e w7 ⟨rfl,hY7,hm7⟩
         have hst7:=HST6.out.away HST.out hm7 HOWN.out
         have hP7:=HP6.out.mod hm7 (fun b hg hx=>(HYO6.out b hx).1 hg) HLOW.out
         have hold:w7.cell? ⟨b8,o8+l0.length,none⟩=some (.pointer (some ⟨y.1.c,0,none⟩)):=hst7.cell (j:=l0.length) (y:=y) (by simp)
         have hfr:=hst7.free (o8+l0.length)
         have hfin:=hst7.setLast (z:=(Y,(y.2.get x.1.x.blk).1)) hY7 HYO6.out
         have hm8:=(Mod.refl (fun x=>x=b8) w7).setCell ⟨b8,o8+l0.length,none⟩ (.pointer (some ⟨Y.c,0,none⟩)) (fun _=>rfl)
         have hP8:=hP7.mod hm8 (fun b hg e=>hst7.ap b8 rfl (e ▸ hg)) (fun b e=>by rw [e];exact hst7.lo b8 rfl)
         have HFIN:=Lib.hid hfin
         have HP8:=Lib.hid (hP8.imp fun l d h=>KI.mono (j:=2*(i+1)) h (by omega))
         clear hxg hLb6 hY7 hm7 hst7 hP7 hfin hm8 hP8
         go_wp2
         go_roundw
         case rel=>exact ⟨i+1,by omega,by go_num,_,G6,c,off,l0,(Y,(y.2.get x.1.x.blk).1),rfl,HFIN.out,HP8.out,by omega⟩
         case measure=>simp [intOf];omega
     · have hne1:((kd==1):Bool)=false:=by rw [beq_eq_false_iff_ne];exact hk1
       by_cases hk7:kd=7
       · as_aux_lemma=>
           subst hk7
           have q1:w5.cell? ⟨b4,o4+i*11+1,none⟩=some (.int .i64 x.1.num):=HLX5.out 1 (by show 1<11;decide)
           have hfu:=HP5.out.fuseK x.1.num HFX.out.num.2
           go_wp2_with fail
           refine hfu.mono ?_
           rintro e w6 ⟨⟨vv,rfl⟩,off6,G6,hP6,hm6,hg6⟩
           have HST6:=Lib.hid (HST5.out.mod hm6 (fun b h=> .inl h) hg6)
           have HP6:=Lib.hid (hP6.imp fun l d h=>KI.mono (j:=2*(i+1)) h (by omega))
           clear hfu hP6 hm6 hg6
           go_wp2
           go_roundw
           case rel=>exact ⟨i+1,by omega,by go_num,_,G6,c,off6,l0,y,rfl,HST6.out,HP6.out,by omega⟩
           case measure=>simp [intOf];omega
       · have hne7:((kd==7):Bool)=false:=by rw [beq_eq_false_iff_ne];exact hk7
         have HPS:=Lib.hid (HP5.out.imp fun l d h=>KI.mono (j:=2*(i+1)) h (by omega))
         by_cases hk06:0≤kd∧kd<7
         · obtain ⟨hk0,hk7'⟩:=hk06
           cases off with
           | true=>
             go_wp2
             go_roundw
             case rel=>exact ⟨i+1,by omega,by go_num,P,G,c,true,l0,y,rfl,HST5.out,HPS.out,by omega⟩
             case measure=>simp [intOf];omega
           | false=>
             as_aux_lemma=>
             obtain rfl:y.2=P:=HP5.out.lastK
             have hLx5:=HLX5.out
             have hagd:=aggDo x
             have hmu:=xmust_any HY5.out x
             go_wp2_with (first
               | ((with_reducible refine wpList_loadA hagd hLx5 ?_ ?_);rfl;go_frame)
               | fail)
             refine hmu.mono ?_
             rintro e w6 ⟨rfl,hY6,hm6⟩
             have hst6:=HST5.out.away HST.out hm6 HOWN.out
             have hP6:=HP5.out.mod hm6 (fun b hg hx=>(HYO.out b hx).1 hg) HLOW.out
             have hLx6:Lies w6 b4 (o4+i*11) (doC x):=HLC.out.below' hP6.w HB4.out
             have hdo:=hP6.doesK (by omega) x (HFX.out.below hP6.w) (by rw [HKD.out];exact hk0) (by rw [HKD.out];exact hk1)
             rw [HKD.out] at hdo
             have HST6:=Lib.hid hst6
             have HY6:=Lib.hid hY6
             clear hmu hLx5 hY6 hm6 hst6 hP6
             go_wp2_with (first
               | ((with_reducible refine wpList_loadA hagd hLx6 ?_ ?_);rfl;go_frame)
               | fail)
             refine hdo.mono ?_
             rintro e w7 ⟨cd,P2,off2,rfl,hcd,G7,hP7,hm7,hg7⟩
             have hst7:=HST6.out.mod hm7 (fun b h=> .inl h) hg7
             have hY7:=HY6.out.mod hm7 (fun b hb=>(HYO.out b hb).1)
             have hYo7: ∀b,Y.own b→¬ G7 b∧b≠b8:=fun b hb=>⟨fun hg=>(hg7 b hg).elim (HYO.out b hb).1 fun e=>by have:=HY6.out.lt b hb;omega,(HYO.out b hb).2⟩
             have q7:w7.cell? ⟨b4,o4+i*11,none⟩=some (.int .i64 kd):=by
               rw [←HKD.out]
               exact HLC.out.below' hP7.w HB4.out 0 (by show 0<11;decide)
             have HST7:=Lib.hid hst7
             have HY7:=Lib.hid hY7
             have HYO7:=Lib.hid hYo7
             have HP7:=Lib.hid hP7
             obtain ⟨want,hwant⟩: ∃r,y.2.does x.1=r:=⟨_,rfl⟩
             rw [hwant] at hcd ⊢
             have HWANT:=Lib.hid hwant
             obtain ⟨wc,hwc⟩: ∃k,want.2=k:=⟨_,rfl⟩
             rw [hwc] at hcd ⊢
             have hcase:(((cd:Int) !=(wc:Int))=false)∨(((cd:Int) !=(wc:Int))=true∧((cd:Int) !=7)=false):=by
               by_cases h:cd=wc
               · exact .inl (by rw [h];simp)
               · exact .inr ⟨by simp;omega,by have:=hcd.resolve_left h;rw [this];rfl⟩
             have HCUT:Hid (∀(v9:Value) (w9:World),StX wl.heap.size G7 w9 v9 ((l0++ [y])++ [(Y,want.1)])→Mod (fun b=>(Value.slice (some ⟨b8,o8,none⟩) (l0.length+1) cp8).ownBlock=some b) w7 w9→PSt wl (KI (2*i+2) n (if cd=0∧4<kd then [want.1] else (l0.map (·.2)++ [y.2])++ [want.1]) off2 P2) c p P2 G7 w9):=Lib.hid fun v9 w9 _ hm9=>by
               have h7:=HP7.out
               rw [HWANT.out] at h7
               exact h7.mod hm9 (fun b hg e=>HST7.out.ap b e hg) (fun b e=>HST7.out.lo b e)
             clear hdo hLx6 hst7 hY7 hYo7 hP7 hm7 hg7 hcd hwant hwc hagd q0
             have hYc:XAt w7 Y want.1:=by
               rw [←HWANT.out]
               exact HY7.out
             have HYC:=Lib.hid hYc
             clear hYc
             have hlen2:(l0++ [y]).length≤1000:=by simp;omega
             have HYB:Hid (∀b,Y.own b→¬ G7 b∧(Value.slice (some ⟨b8,o8,none⟩) (l0.length+1) cp8).ownBlock≠some b):=Lib.hid fun b hb=>⟨(HYO7.out b hb).1,fun e=>(HYO7.out b hb).2 (by cases e;rfl)⟩
             rcases hcase with hcc|⟨hcc,hc7⟩
             all_goals
               go_upto_region 25 with (first
                 | ((with_reducible refine wpList_appendX (y:=(Y,want.1)) HST7.out HYC.out HYB.out hlen2 HP7.out.w.size HP7.out.hi ?_ ?_ ?_ ?_);rfl;rfl;rfl;(intro v9 w9 hst9 hm9;have HST9:=Lib.hid hst9;have HM9:=Lib.hid hm9;have hb9:=hst9.shape;clear hst9 hm9);go_frame)
                 | fail)
             all_goals
               clear hcc
               obtain ⟨b9,o9,cp9,rfl,hcp9,hb9l⟩:=hb9
               have hP9:=HCUT.out _ _ HST9.out HM9.out
               have q9:w9.cell? ⟨b4,o4+i*11,none⟩=some (.int .i64 kd):=by
                 rw [←HKD.out]
                 exact HLC.out.below' hP9.w HB4.out 0 (by show 0<11;decide)
               obtain ⟨m,hm⟩: ∃m,l0.length+1=m:=⟨_,rfl⟩
               have hSm9:((l0++ [y])++ [(Y,want.1)]).length=m+1:=by simp;omega
               have hSm8:(l0++ [y]).length=m:=by simp;omega
               have hst9:=HST9.out
               rw [hSm9] at hcp9 hst9 ⊢
               have hmi:m≤i+1:=by omega
               have HM:=Lib.hid hm
               have HSM8:=Lib.hid hSm8
               clear hSm9 hSm8 hm em em1 em2 hcp8 HCUT HST9 HM9 q7
               by_cases hcut:cd=0∧4<kd
               · rw [if_pos hcut] at hP9
                 obtain ⟨rfl,hk4⟩:=hcut
                 have em9:((m+1:Nat):Int)-1=(m:Int):=by omega
                 have em92:((m+1:Nat):Int)≤1000:=by omega
                 have HAD:Hid ((if cp9=m then (some ⟨b9,o9,none⟩:Option Addr) else (some (⟨b9,o9,none⟩:Addr)).map (·.add (m*1)))=some ⟨b9,o9+m,none⟩):=Lib.hid (by
                   rw [if_neg (by omega),Nat.mul_one,Option.map_some,addr_add])
                 have HLN:Hid (m+1-m=1):=Lib.hid (by omega)
                 have hlo:m≤m+1:=Nat.le_succ _
                 have htl:=hst9.tail (l0:=l0++ [y])
                 rw [HSM8.out] at htl
                 have HTL:=Lib.hid htl
                 have HPF:=Lib.hid hP9
                 clear htl hP9 hst9 hcp9 hb9l
                 go_wp2_with (first
                   | ((with_reducible refine wpList_exec rfl (exec_sliceLo2 Tryz.underlying79 sizeXP hlo HAD.out HLN.out rfl ?_ ?_) ?_);rfl;rfl;go_frame)
                   | fail)
                 go_roundw
                 case rel=>exact ⟨i+1,by omega,by go_num,P2,G7,c,off2, [],(Y,want.1),rfl,HTL.out,HPF.out,Nat.zero_le _⟩
                 case measure=>simp [intOf];omega
               · rw [if_neg hcut] at hP9
                 have hmap:(l0++ [y]).map (·.2)=l0.map (·.2)++ [y.2]:=by simp
                 rw [←hmap] at hP9
                 have HPF:=Lib.hid hP9
                 have HST9:=Lib.hid hst9
                 clear hP9 hst9 hcp9 hb9l hmap
                 by_cases hz:cd=0
                 · subst hz
                   have hk4:¬ 4<kd:=fun e=>hcut ⟨rfl,e⟩
                   clear hcut
                   go_wp2
                   go_roundw
                   case rel=>exact ⟨i+1,by omega,by go_num,P2,G7,c,off2,l0++ [y],(Y,want.1),rfl,HST9.out,HPF.out,by rw [HSM8.out];exact hmi⟩
                   case measure=>simp [intOf];omega
                 · have hz':((cd:Int)==0)=false:=by simp;omega
                   clear hcut hz
                   go_wp2
                   go_roundw
                   case rel=>exact ⟨i+1,by omega,by go_num,P2,G7,c,off2,l0++ [y],(Y,want.1),rfl,HST9.out,HPF.out,by rw [HSM8.out];exact hmi⟩
                   case measure=>simp [intOf];omega
         · by_cases hk8:kd>7
           · as_aux_lemma=>
             obtain ⟨xd,a6,n6,c6⟩:=x
             have r10:w5.drew.cell? ⟨b4,o4+i*11+10,none⟩=some (.slice a6 n6 c6):=HLX5.out 10 (by show 10<11;decide)
             have r1:w5.drew.cell? ⟨b4,o4+i*11+1,none⟩=some (.int .i64 xd.num):=HLX5.out 1 (by show 1<11;decide)
             have hS:=And.intro r10 r1
             have hnG:¬ G b4:=fun e=>absurd (HP5.out.lo b4 e) (Nat.not_le.2 HB4.out)
             have hPd:=HP5.out.below (Below.refl w5.heap.size w5).drew
             have hkp:=HFX.out.keep.below hPd.w
             have hcr:=hPd.crashK (by omega) (.slice a6 n6 c6) xd.keep hkp (fun h0 r hr hg=>absurd (HP5.out.lo r hg) (Nat.not_le.2 (HKF.out r hr h0))) xd.num
             have HWD:=Lib.hid hPd.w
             have HSTD:=Lib.hid (HST5.out.below (Below.refl w5.heap.size w5).drew)
             clear hPd hkp r10 r1
             clear hk06
             go_upto_region 28 with fail
             clear q0
             refine wp_region_x (fun w'=>w'.cell? ⟨b4,o4+i*11+10,none⟩=some (.slice a6 n6 c6)∧w'.cell? ⟨b4,o4+i*11+1,none⟩=some (.int .i64 xd.num)) [(0,1),(1,1),(2,1),(3,1),(4,1),(5,0),(6,1),(7,1),(8,1),(9,1),(10,0),(11,2)] (by kernel_rfl) (by kernel_rfl) (by intro d v c a w h;cases d<;>exact h) ?_
             iterate 5 (refine x_take rfl (fun K hK=> ?_);go_simp;refine hK _ ?_;clear hK K)
             refine x_read rfl hS (fun w' h=>exec_load1 ⟨⟨_,Tryz.underlying39,rfl⟩⟩ rfl h.1) ?_
             iterate 4 (refine x_take rfl (fun K hK=> ?_);go_simp;refine hK _ ?_;clear hK K)
             refine x_read rfl hS (fun w' h=>exec_load1 ⟨⟨_,Tryz.underlying3,rfl⟩⟩ rfl h.2) ?_
             refine x_show' rfl (fun K hK=> ?_)
             go_simp
             refine hcr.mono ?_
             rintro e w6 ⟨rfl,hm6,FD6,d6,l6,Q,hD6,hFD6,hQ,hQg,ho,hnew,hk6,hs6,hdl,hdq⟩
             have hS6:=And.intro (cell_mod hS.1 hm6 hnG) (cell_mod hS.2 hm6 hnG)
             refine hK _ _ hS6 ?_
             clear hK K hS hS6 hcr
             refine x_nil ?_
             have hw6:Below wl.heap.size wl w6:=HWD.out.trans (hm6.below HWD.out.size fun b hb hg=>absurd (HP5.out.lo b hg) (Nat.not_le.2 hb))
             have hst6:=HSTD.out.mod hm6 (fun b h=> .inl h) (G':=G) fun b h=> .inl h
             have hop:=popenK (w0:=wl) hD6 (fun b hb=>HP5.out.lo b (hFD6 b hb)) hw6 hk6 hs6 hQg ho hnew (by omega) HN.out.1 (by have:=HN.out.2;omega) hdl (by rw [hdq];exact Nat.zero_le _)
             have hRL:(PC.opened Q.L Q.num n).L=Q.L:=by
               rw [←hQg.len]
               exact opened_L _ _
             have hRn:(PC.opened Q.L Q.num n).num=Q.num:=opened_num _ _ _
             obtain ⟨R,hR⟩: ∃R,PC.opened Q.L Q.num n=R:=⟨_,rfl⟩
             rw [hR] at hop hRL hRn
             have HST6:=Lib.hid hst6
             have HFD6:=Lib.hid hFD6
             have HR:=Lib.hid hR
             have HQ:=Lib.hid hQ
             have HQG:=Lib.hid hQg
             have HRL:=Lib.hid hRL
             have HRN:=Lib.hid hRn
             clear hm6 hD6 hFD6 hQ hQg ho hnew hk6 hs6 hdl hdq hw6 hst6 hR hRL hRn
             go_wp2_with fail
             refine hop.mono ?_
             rintro e w7 ⟨c7,G7,rfl,hP7,hb7,hg7⟩
             have hst7:=HST6.out.mod (G':=G7) (Mod.of_below hb7) (fun _ h=> .inr h) fun b hb=>(hg7 b hb).imp (HFD6.out b) id
             have hlm:=lmatches_any hP7 hst7.sl (fun z hz=>(hst7.at_ z hz).1) (by simp;omega)
             have HST7:=Lib.hid hst7
             have HP7:=Lib.hid hP7
             clear hop hst7 hP7 hb7 hg7
             rw [show (l0++ [y]).length=l0.length+1 by simp] at hlm
             go_wp2_with fail
             refine hlm.mono ?_
             rintro e w8 ⟨v8,l8,rfl,hmem,hlen,hO8,hb8w⟩
             obtain ⟨yq,hyq,hyQ⟩: ∃yq∈l0++ [y],yq.2=Q:=by
               have h:=HQ.out
               rw [show l0.map (·.2)++ [y.2]=(l0++ [y]).map (·.2) by simp] at h
               exact List.mem_map.1 h
             have hin:yq∈l8:=(hmem yq).2 ⟨hyq,by rw [hyQ];exact like_of HRL.out HRN.out⟩
             have hpos:0<l8.length:=List.length_pos_of_mem hin
             obtain ⟨z0,hz0⟩: ∃z0,l8[0]?=some z0:=⟨_,List.getElem?_eq_getElem hpos⟩
             obtain ⟨a8,cp8',rfl,h81,h82,h83⟩:=hO8.sl elX.len
             obtain ⟨b10,o10,rfl,hlt10,hc10⟩:=h83 hpos
             have hz:((l8.length:Int)==0)=false:=beq_eq_false_iff_ne.2 (by omega)
             have hl8:(l8.length:Int)≤1000:=by
               have h:l8.length≤l0.length+1:=by simpa using hlen
               omega
             have HMEM:=Lib.hid hmem
             have HYQ:=Lib.hid hyQ
             have HIN:=Lib.hid hin
             have HZ0:=Lib.hid hz0
             have HC10:=Lib.hid hc10
             have HP8:=Lib.hid (HP7.out.below hb8w)
             have HST8:=Lib.hid (HST7.out.below hb8w)
             clear hlm hmem hlen hO8 hb8w hyq hyQ hin hz0 hc10 h81 h82 h83 HST7 HP7
             have hpos':(0:Int)<(l8.length:Int):=by omega
             go_wp2
             go_loopw [16] (fun iv wi=> ∃k:Nat,1≤k∧k≤l8.length∧iv= .int .i64 k∧Below w8.heap.size w8 wi∧ ∀(j:Nat) (z:XA×PC),j<k→l8[j]?=some z→z.2.L=z0.2.L) (fun iv _=>l8.length-(intOf iv).toNat)
             case atStart=>exact ⟨1,Nat.le_refl _,hpos,rfl,Below.refl _ _,fun j z hj hz=>by
               obtain rfl:j=0:=Nat.lt_one_iff.1 hj
               rw [HZ0.out] at hz
               cases hz
               rfl⟩
             case round=>
               obtain ⟨k,hk1',hk2,rfl,hbw,hall⟩:=hrel
               have HALL:=Lib.hid hall
               have HBW:=Lib.hid hbw
               have hz0r:wr.cell? ⟨b10,o10,none⟩=some (.pointer (some ⟨z0.1.c,0,none⟩)):=by
                 have:=((HC10.out 0 z0 HZ0.out).below' hbw hlt10) 0 (by simp [enX])
                 simpa [enX] using this
               have hX0:=(HST8.out.at_ z0 ((HMEM.out z0).1 (List.mem_of_getElem? HZ0.out)).1).1.below hbw
               by_cases hkl:k<l8.length
               · have hkl':(k:Int)<(l8.length:Int):=by omega
                 obtain ⟨z,hz'⟩: ∃z,l8[k]?=some z:=⟨_,List.getElem?_eq_getElem hkl⟩
                 have hzr:wr.cell? ⟨b10,o10+k,none⟩=some (.pointer (some ⟨z.1.c,0,none⟩)):=by
                   have:=((HC10.out k z hz').below' hbw hlt10) 0 (by simp [enX])
                   simpa [enX] using this
                 have hXz:=(HST8.out.at_ z ((HMEM.out z).1 (List.mem_of_getElem? hz')).1).1.below hbw
                 have hS:wr.drew.cell? ⟨b10,o10+k,none⟩=some (.pointer (some ⟨z.1.c,0,none⟩))∧wr.drew.cell? ⟨z.1.c,0,none⟩=some (.slice (some ⟨z.1.sb,0,none⟩) z.2.L.length z.2.L.length)∧wr.drew.cell? ⟨b10,o10,none⟩=some (.pointer (some ⟨z0.1.c,0,none⟩))∧wr.drew.cell? ⟨z0.1.c,0,none⟩=some (.slice (some ⟨z0.1.sb,0,none⟩) z0.2.L.length z0.2.L.length):=⟨hzr,hXz.c0,hz0r,hX0.c0⟩
                 have hsm:=xsame_any (w:=wr.drew) (hXz.below (Below.refl wr.heap.size wr).drew).sl (hX0.below (Below.refl wr.heap.size wr).drew).sl hXz.n64 hX0.n64
                 have HZK:=Lib.hid hz'
                 have HDW:=Lib.hid (HBW.out.drew)
                 have hltz:z.1.c<wr.heap.size:=lt_of_block hXz.blk
                 have hltz0:z0.1.c<wr.heap.size:=lt_of_block hX0.blk
                 have hlt10r:b10<wr.heap.size:=Nat.lt_of_lt_of_le hlt10 hbw.size
                 clear hz' hzr hXz hX0 hz0r hall hbw
                 go_upto_region 38 with fail
                 refine wp_region_x (fun w'=>w'.cell? ⟨b10,o10+k,none⟩=some (.pointer (some ⟨z.1.c,0,none⟩))∧w'.cell? ⟨z.1.c,0,none⟩=some (.slice (some ⟨z.1.sb,0,none⟩) z.2.L.length z.2.L.length)∧w'.cell? ⟨b10,o10,none⟩=some (.pointer (some ⟨z0.1.c,0,none⟩))∧w'.cell? ⟨z0.1.c,0,none⟩=some (.slice (some ⟨z0.1.sb,0,none⟩) z0.2.L.length z0.2.L.length)) [(0,1),(1,1),(2,1),(3,0),(4,1),(5,1),(6,0),(7,1),(8,1),(9,0),(10,1),(11,1),(12,0),(13,2),(14,1)] (by kernel_rfl) (by kernel_rfl) (by intro d v c a w h;cases d<;>exact h) ?_
                 iterate 3 (refine x_take rfl (fun K hK=> ?_);go_simp;refine hK _ ?_;clear hK K)
                 refine x_read rfl hS (fun w' h=>exec_load1 ⟨⟨_,Tryz.underlying51,rfl⟩⟩ rfl h.1) ?_
                 iterate 2 (refine x_take rfl (fun K hK=> ?_);go_simp;refine hK _ ?_;clear hK K)
                 refine x_read rfl hS (fun w' h=>exec_load1 ⟨⟨_,Tryz.underlying60,rfl⟩⟩ rfl h.2.1) ?_
                 iterate 2 (refine x_take rfl (fun K hK=> ?_);go_simp;refine hK _ ?_;clear hK K)
                 refine x_read rfl hS (fun w' h=>exec_load1 ⟨⟨_,Tryz.underlying51,rfl⟩⟩ rfl h.2.2.1) ?_
                 iterate 2 (refine x_take rfl (fun K hK=> ?_);go_simp;refine hK _ ?_;clear hK K)
                 refine x_read rfl hS (fun w' h=>exec_load1 ⟨⟨_,Tryz.underlying60,rfl⟩⟩ rfl h.2.2.2) ?_
                 refine x_show' rfl (fun K hK=> ?_)
                 go_simp
                 refine hsm.mono ?_
                 rintro e w11 ⟨rfl,hb11⟩
                 have hS11:=And.intro ((hb11.cell (p:=⟨b10,o10+k,none⟩) hlt10r).trans hS.1) (And.intro ((hb11.cell (p:=⟨z.1.c,0,none⟩) hltz).trans hS.2.1) (And.intro ((hb11.cell (p:=⟨b10,o10,none⟩) hlt10r).trans hS.2.2.1) ((hb11.cell (p:=⟨z0.1.c,0,none⟩) hltz0).trans hS.2.2.2)))
                 refine hK _ _ hS11 ?_
                 clear hK K hS hS11 hsm
                 have HB11:=Lib.hid (HDW.out.trans (hb11.mono HDW.out.size))
                 clear hb11
                 by_cases heq:z.2.L=z0.2.L
                 · rw [decide_eq_true heq]
                   have HEQ:=Lib.hid heq
                   clear heq
                   iterate 1 (refine x_take rfl (fun K hK=> ?_);go_simp;refine hK _ ?_;clear hK K)
                   refine x_nil ?_
                   go_wp2
                   go_roundw
                   case rel=>exact ⟨k+1,by omega,by omega,by go_num,HB11.out,fun j u hj hu=>by
                     by_cases hjk:j<k
                     · exact HALL.out j u hjk hu
                     · obtain rfl:j=k:=by omega
                       rw [HZK.out] at hu
                       cases hu
                       exact HEQ.out⟩
                   case measure=>simp [intOf];omega
                 · rw [decide_eq_false heq]
                   clear heq
                   iterate 1 (refine x_take rfl (fun K hK=> ?_);go_simp;refine hK _ ?_;clear hK K)
                   refine x_nil ?_
                   have hw11:=HP8.out.w.trans (HB11.out.mono HP8.out.w.size)
                   have HW11:=Lib.hid hw11
                   clear hw11
                   go_wp2_with (first
                     | (go_at_call 16;refine (lives_any _).mono ?_;rintro e w12 ⟨rfl,hb12⟩;have HB12:=Lib.hid (HB1.out.trans ((HW11.out.trans (hb12.mono HW11.out.size)).mono HB1.out.size));clear hb12)
                     | fail)
                   go_ret
                   exact ⟨rfl,HB12.out⟩
               · obtain rfl:k=l8.length:=by omega
                 have hxo:=xopen_any hX0
                 have hL0:z0.2.L=Q.L:=by
                   obtain ⟨j,hj⟩:=List.mem_iff_getElem?.1 HIN.out
                   rw [←HYQ.out]
                   exact (HALL.out j yq (List.getElem?_eq_some_iff.1 hj).1 hj).symm
                 have hN0:z0.2.num=Q.num:=by
                   rw [←HRN.out]
                   exact ((HMEM.out z0).1 (List.mem_of_getElem? HZ0.out)).2.2.symm
                 have hopn:PC.opened z0.2.L z0.2.num z0.2.L.length=R:=by
                   rw [hL0,hN0,HQG.out.len]
                   exact HR.out
                 rw [hopn] at hxo
                 have hPr:=HP8.out.below hbw
                 have HPr:=Lib.hid hPr
                 clear hX0 hL0 hN0 hopn hPr hall hbw
                 go_wp2_with fail
                 refine hxo.mono ?_
                 rintro e w12 ⟨Y9,rfl,hY9,hb12,hown9⟩
                 have hP12:=HPr.out.below hb12
                 have hfin:=StX.one (B:=wl.heap.size) (G:=G7) (y:=(Y9,R)) (w':=w12.alloc (.cells #[.pointer (some ⟨Y9.c,0,none⟩)] 51)) hY9 rfl hP12.w.size hP12.hi (fun b hb hg=>by have h1:=HPr.out.hi b hg;have h2:=hown9 b hb;omega)
                 have hP13:=hP12.below ((Below.refl w12.heap.size w12).alloc (Nat.le_refl _) (.cells #[.pointer (some ⟨Y9.c,0,none⟩)] 51))
                 have HFIN:=Lib.hid hfin
                 have HP13:=Lib.hid (hP13.imp fun l d h=>KI.mono (j:=2*(i+1)) h (by omega))
                 clear hxo hY9 hb12 hown9 hP12 hP13 hfin hz0r
                 go_wp2
                 go_roundw
                 case rel=>exact ⟨i+1,by omega,by go_num,R,G7,c7,false, [],(Y9,R),rfl,HFIN.out,HP13.out,Nat.zero_le _⟩
                 case measure=>simp [intOf];omega
           · have h0:¬ 0≤kd:=fun e=>hk06 ⟨e,by omega⟩
             clear hk06
             go_wp2
             go_roundw
             case rel=>exact ⟨i+1,by omega,by go_num,P,G,c,off,l0,y,rfl,HST5.out,HPS.out,by omega⟩
             case measure=>simp [intOf];omega
   · obtain rfl:i=es.length:=by omega
     obtain ⟨P,G,c,off,l0,y,rfl,hst,hP,hl0⟩:=hA
     have hwl:=hP.w
     go_wp2_with (first
       | (go_at_call 16;refine (lives_any _).mono ?_;rintro e w8 ⟨rfl,hb8⟩;have HB8:=Lib.hid (HB1.out.trans ((hwl.trans (hb8.mono hwl.size)).mono HB1.out.size));clear hb8)
       | fail)
     go_ret
     exact ⟨rfl,HB8.out⟩
end Go.Proofs.YtldimgchpgoggaaGreat
namespace Go.Proofs.YtldimgchpgoggaaGreat
open Go.ChangeShapes Go.WideShapes Go.ChangeAt Go.RowKit Go.Tn Go.Joins
set_option maxRecDepth 100000 in
theorem kept_lifted (os:Os) (started:os.Started) (H:Type) (enc:TypeId×Value→H):
   ReturnsInHanded {} Tryz.checked os 6 .any (Rows.pcacheKeptSpec.pre6 enc Tryz.prog Tryz.f6 Rows.pcacheKeptRow.domain false) (Rows.pcacheKeptSpec.post enc Tryz.prog Tryz.f6 false true false false):=by
 refine returnsInHanded_of_change (C:=Tryz.checked) Tryz.own started (by kernel_rfl) Tryz.func6
   (ChangeSpec.witness6 (enc:=enc) (C:=Tryz.checked) false ⟨#[], #[.int .i64 0, .slice none 0 0], []⟩ 8 (by kernel_rfl) (by kernel_rfl) (by kernel_rfl) (by kernel_rfl)) ?_
 intro W base args ds gs before hval0 hW hcnd _
 have hval: ∀(j:Nat) t v,Tryz.f6.params[j]?=some t→args[j]?=some v→Value.okWide Tryz.prog W .any base t v:=hval0
 have hW':=hW
 obtain ⟨p,q,hA0,hV,rfl,hfz,hnd⟩:=hW
 have hA:DataW.TrodAll enc Tryz.prog W 0 (fun _=>true) true Tryz.f6.params.toList args.toList ds p:=hA0
 rw [Tryz.params6] at hA hval
 obtain ⟨v0,vs0,d0,ds0,p0,q0,hargs,rfl,rfl,h0,r0⟩:=trodAll_cons hA
 obtain ⟨v1,vs1,d1,ds1,p1,q1,rfl,rfl,rfl,h1,r1⟩:=trodAll_cons r0
 obtain ⟨rfl,rfl,rfl⟩:=trodAll_nil r1
 obtain rfl:args= #[v0,v1]:=by cases args;simp_all
 obtain ⟨rfl,rfl⟩:=trodVars_none hV
 obtain ⟨a0,rfl,rfl,rfl,w0⟩:=open_int Tryz.underlying3 (hval 0 3 v0 rfl rfl) h0
 obtain ⟨a1,len1,cap1,rfl⟩:=okWide_slice Tryz.underlying22 (hval 1 22 v1 rfl rfl)
 have k1:=h1
 have lt1: ∀x∈p1,x.block<W.heap.size:=by obtain ⟨m,hm⟩:=k1;exact DataW.trod_lt m _ _ _ hm
 obtain ⟨es,hes⟩:=dos_of h1
 clear hA0 hval0
 refine (kept_walk W a0 _ es hes).mono fun e W' ⟨he,bel⟩=> ?_
 subst he
 exact ⟨_,rfl,_,_,_, [],_, [],hW',trodAll_mk1 (shut_bool Tryz.underlying4 _),(trodAll_cons_mk (shut_int Tryz.underlying3 w0) (trodAll_cons_mk (Below.trod Tryz.laidOut (by kernel_rfl) (of_decide_eq_true (by kernel_rfl)) k1 bel lt1) trodAll_mk0)),rfl,bel.frame _,fun h=>by cases h⟩
theorem kept_holds:Rows.PcacheKeptSaid:=
 OpenClaim.holds_of_wide 6 Tryz.f6 rfl rfl rfl rfl rfl rfl rfl ⟨rfl,rfl,rfl,rfl,rfl⟩ rfl rfl rfl rfl rfl (by kernel_rfl) Tryz.func6 (by kernel_rfl)
   (of_decide_eq_true (by kernel_rfl)) (by unfold Func.isWrapper;first|(rw [if_pos (by decide+kernel)];kernel_rfl)|(rw [if_neg (by decide+kernel)];exact ⟨rfl,rfl⟩))
   (fun os started H enc _=>kept_lifted os started H enc)
end Go.Proofs.YtldimgchpgoggaaGreat
