import Derived.Test.YtjdbbnhnbdocbaaGreatMgGon19
namespace Go.Proofs.YtjdbbnhnbdocbaaGreat
open Go.RowKit Go.Tn Go.Tn.Bt Go.Tn.Lp Go.Tn.Dk
theorem decB_trans {B:List Nat} {homes:Nat} {ps:List Pt} (h:decB B homes=some ps):transB ps homes=true:=by
 unfold decB at h
 split at h
 ·cases h
 ·split at h
  ·rename_i hc
   cases h
   exact hc.2
  ·cases h
theorem PtsO.away {B:Nat} {w:World} {F:Nat→Prop} {v:Value} {ps:List Pt} (h:PtsO B w v ps) (hF: ∀b,F b→b<B):PtsA w F v ps:=by
 obtain ⟨xs,h1,h2,h3⟩:=h
 exact ⟨xs,h1,h2.sl elPt.len,fun r hr e=>absurd (hF r e) (Nat.not_lt.2 (h2.lo r hr)),fun x hx=>⟨(h3 x hx).1,fun r hr e=>absurd (hF r e) (Nat.not_lt.2 ((h3 x hx).2 r hr).1)⟩⟩
theorem replay_free {l:Lg} {d:Dsk} {floor:Nat} {H:Nat→Option (List Nat)} (ht:l.tail≤l.next):({l with H:=H,next:=l.next+(l.recordB d floor).length}:Lg).free=l.free-(l.recordB d floor).length:=by
 unfold Lg.free
 simp only
 omega
theorem replayGo_fuel (d:Dsk): ∀(m:Nat) (l:Lg) (floor f1 f2:Nat),l.free≤m→l.tail≤l.next→m+1≤f1→m+1≤f2→replayGo d f1 l floor=replayGo d f2 l floor
 | m,l,floor,0,f2,_,_,h1,_=>absurd h1 (by omega)
 | m,l,floor,f1+1,0,_,_,_,h2=>absurd h2 (by omega)
 | m,l,floor,f1+1,f2+1,hm,ht,h1,h2=>by
  simp only [replayGo]
  cases hj:joinB (l.recordB d floor) with
  | none=>rfl
  | some b=>
   simp only
   cases hdc:decB b (l.homes d) with
   | none=>rfl
   | some ps=>
    simp only
    have hne:=joinB_ne hj
    have hlen:=recordB_len l d floor
    have hpos:=List.length_pos_iff.2 hne
    have hfr:=replay_free (H:=takeH l.H ps) (d:=d) (floor:=floor) ht
    cases m with
    | zero=>omega
    | succ m=>exact replayGo_fuel d m _ _ f1 f2 (by rw [hfr];omega) (by simp only;omega) (by omega) (by omega)
theorem replay_step {l:Lg} {d:Dsk} {floor:Nat} {b:List Nat} {ps:List Pt} {q:Pc} {r:List Pc} (ht:l.tail≤l.next) (hr:l.recordB d floor=q::r) (hj:joinB (q::r)=some b) (hdc:decB b (l.homes d)=some ps):
  replayGo d (l.free+1) l floor=replayGo d (({l with H:=takeH l.H ps,next:=l.next+(q::r).length}:Lg).free+1) {l with H:=takeH l.H ps,next:=l.next+(q::r).length} q.ep:=by
 have hlen:=recordB_len l d floor
 have hfr:=replay_free (H:=takeH l.H ps) (d:=d) (floor:=floor) ht
 rw [hr] at hlen hfr
 have h1:replayGo d (l.free+1) l floor=replayGo d l.free {l with H:=takeH l.H ps,next:=l.next+(q::r).length} q.ep:=by
  simp only [replayGo,hr,hj,hdc]
  rfl
 rw [h1]
 refine replayGo_fuel d (({l with H:=takeH l.H ps,next:=l.next+(q::r).length}:Lg).free) _ _ _ _ (Nat.le_refl _) (by simp only;omega) ?_ (Nat.le_refl _)
 rw [hfr]
 have:0<(q::r).length:=by simp
 omega
def nextOf (g:Nat) (w:World):Nat:=(intOf ((w.cell? ⟨g,5,none⟩).getD undef)).toNat
theorem nextOf_at {w:World} {F:Nat→Prop} {g p:Nat} {l:Lg} (h:LAt w F g p l):nextOf g w=l.next:=by
 obtain ⟨m,L,clk,h1, -⟩:=h.ex
 unfold nextOf
 rw [cell_of (o:=5) h1 rfl]
 simp [intOf]
def RepAt (w:World) (F:Nat→Prop) (g p:Nat) (l:Lg) (d:Dsk) (floor:Nat) (fv:Value) (wi:World):Prop:= ∃(li:Lg) (fl:Nat) (Fi:Nat→Prop),fv= .int .u64 (fl:Nat)∧fl<2 ^ 63∧li.n=l.n∧li.tail=l.tail∧l.tail≤li.next∧li.next≤l.tail+l.n∧LAt wi Fi g p li∧Mod F w wi∧(∀b,Fi b→F b∨w.heap.size≤b)∧replayGo d (li.free+1) li fl=replayL l d floor
set_option maxRecDepth 20000 in
set_option maxHeartbeats 8000000 in
theorem replay_any {w:World} {F FD:Nat→Prop} {g p:Nat} {l:Lg} {d:Dsk} (h:LAt w F g p l) (hd:DAt w FD p d) (hF: ∀b,F b→¬ FD b) (hn2:2≤l.n) (hn4:l.n≤4096) (hnd:l.n+3≤d.L.length) (ht:l.tail≤l.next) (hx:l.next≤l.tail+l.n) (hs:l.tail<2 ^ 41) (floor:Nat) (hfl:floor<2 ^ 63):
  Calls Tryz.prog 55 #[.pointer (some ⟨g,0,none⟩), .int .u64 floor] w fun e w'=>e= .returned (.tuple #[])∧ ∃F',LAt w' F' g p (replayL l d floor)∧Mod F w w'∧ ∀b,F' b→F b∨w.heap.size≤b:=by
 have HL:=Lib.hid h
 have HD:=Lib.hid hd
 have HFF:=Lib.hid hF
 have hR0:RepAt w F g p l d floor (.int .u64 (floor:Nat)) w:=⟨l,floor,F,rfl,hfl,rfl,rfl,ht,hx,h,Mod.refl _ _,fun b hb=> .inl hb,rfl⟩
 clear h hd hF
 go_enter Tryz.func55,Tryz.ntmps55
 go_wp2_with fail
 go_loopw [1] (fun fv wi=>RepAt w F g p l d floor fv wi) (fun _ wi=>l.n+l.tail-nextOf g wi)
 case atStart=>exact hR0
 case round=>
  obtain ⟨li,fl,Fi,rfl,hfl',hn,htl,hlo,hhi,hLi,hm,hFi,hrep⟩:=hrel
  have hnx:=nextOf_at hLi
  have hDi:DAt wr FD p d:=HD.out.mod hm fun b hb e=>HFF.out b e hb
  have hrec:=record_any hLi hDi (by omega) (by omega) (by omega) (by omega) fl hfl'
  have HLI:=Lib.hid hLi
  have HDI:=Lib.hid hDi
  have HM:=Lib.hid hm
  have HFI:=Lib.hid hFi
  have HREP:=Lib.hid hrep
  have HNX:=Lib.hid hnx
  have HN:=Lib.hid hn
  have HTL:=Lib.hid htl
  have hln:li.n≤4096:=by omega
  have hnn:li.n+3≤d.L.length:=by omega
  have htt:li.tail≤li.next:=by omega
  have hll:li.next≤li.tail+li.n:=by omega
  have hts:li.tail<2 ^ 41:=by omega
  have hok:=recordB_ok hDi.ok (l:=li) (by omega) (by omega) fl
  have hrl:=recordB_len li d fl
  have hfe:li.free≤li.n:=by unfold Lg.free;omega
  have hro:=recOf_len (li.recordB d fl) fun q hq=>(hok q hq).1
  clear hLi hDi hm hFi hrep hnx hn htl hR0
  go_wp2_with fail
  refine hrec.mono ?_
  rintro e w2 ⟨hb2,v2,rfl,hP2⟩
  have hjn:=join_any w2 v2 (li.recordB d fl) hP2.rd (fun q hq=>⟨Nat.lt_of_le_of_lt (hok q hq).1.1 (by decide),Nat.lt_of_le_of_lt (hok q hq).1.2.1 (by decide),(hok q hq).2⟩) (by omega) (by omega)
  have HP2:=Lib.hid hP2
  have HB2:=Lib.hid hb2
  obtain ⟨a2,n2,c2,rfl⟩: ∃a n c,v2= .slice a n c:=by
   obtain ⟨xs, -,hO, -⟩:=hP2
   exact hO.shape
  clear hrec hb2 hP2
  go_wp2_with fail
  refine hjn.mono ?_
  rintro e w3 ⟨hb3,hR⟩
  have HB3:Hid (Below wr.heap.size wr w3):=Lib.hid (HB2.out.trans (hb3.mono HB2.out.size))
  have HB23:=Lib.hid hb3
  clear hjn hb3
  cases hj:joinB (li.recordB d fl) with
  | none=>
   rw [hj] at hR
   unfold JoinR at hR
   simp only at hR
   subst hR
   have HF:Hid (replayL l d floor=li):=Lib.hid (by rw [←HREP.out];simp only [replayGo,hj])
   clear hj
   go_wp2
   refine bodyPost_ret (results_none rfl _ _ _) rfl ?_
   rw [HF.out]
   exact ⟨rfl,Fi,HLI.out.below HB3.out,HM.out.trans (Mod.of_below HB3.out) (fun _ h=>h) fun x hx h=>absurd hx (Nat.not_lt.2 (Nat.le_trans HM.out.size h)),HFI.out⟩
  | some b=>
   rw [hj] at hR
   unfold JoinR at hR
   simp only at hR
   obtain ⟨v3,rfl,hO3⟩:=hR
   obtain ⟨a3,n3,c3,rfl⟩:=hO3.shape
   have hL3:=HLI.out.below HB3.out
   have hD3:=HDI.out.below HB3.out
   have hho:=homes_any hL3 hD3 hnn
   have hsl3:=hO3.sl el8.len
   have hbe:b=recOf (li.recordB d fl):=by
     cases hrr:li.recordB d fl with
     | nil=>rw [hrr] at hj;cases hj
     | cons q r=>
      rw [hrr] at hj
      simp only [joinB] at hj
      split at hj
      ·split at hj
       ·exact (Option.some.inj hj).symm
       ·cases hj
      ·cases hj
   have hblen:b.length≤50000:=Nat.le_trans (joinB_short hj) (by decide)
   have hbb: ∀x∈b,x<256:=by
    rw [hbe]
    exact recOf_lt fun q hq=>⟨Nat.lt_of_le_of_lt (hok q hq).1.1 (by decide),Nat.lt_of_le_of_lt (hok q hq).1.2.1 (by decide),(hok q hq).2⟩
   have hepo: ∀q∈li.recordB d fl,q.ep≤16777215:=fun q hq=>(hok q hq).1.1
   have HEP:=Lib.hid hepo
   have hhl:li.homes d≤4096:=by have:=HD.out.ok.hi;unfold Lg.homes;omega
   have hdc:=fun w4 (hb4:Below w3.heap.size w3 w4)=>decode_any w4 (.slice a3 n3 c3) b (hsl3.below hb4) hbb hblen (li.homes d) (by omega)
   have HDC:=Lib.hid hdc
   have HJ:=Lib.hid hj
   clear hO3 hsl3 hj hdc hL3 hD3 hro hok hbe hepo hbb
   go_wp2_with (first
    | (go_at_call 57;refine hho.mono ?_;rintro e w4 ⟨rfl,hb4⟩;have HB4:=Lib.hid hb4;clear hb4 hho)
    | fail)
   refine (HDC.out _ HB4.out).mono ?_
   rintro e w5 ⟨hb5,hR5⟩
   have HB5:Hid (Below wr.heap.size wr w5):=Lib.hid (HB3.out.trans ((HB4.out.trans (hb5.mono HB4.out.size)).mono HB3.out.size))
   have HB45:Hid (Below w3.heap.size w3 w5):=Lib.hid (HB4.out.trans (hb5.mono HB4.out.size))
   clear hb5 HDC
   cases hd:decB b (li.homes d) with
   | none=>
    rw [hd] at hR5
    obtain ⟨a5,n5,c5,rfl⟩:=hR5
    have HF:Hid (replayL l d floor=li):=Lib.hid (by rw [←HREP.out];simp only [replayGo,HJ.out,hd])
    clear hd
    go_wp2
    refine bodyPost_ret (results_none rfl _ _ _) rfl ?_
    rw [HF.out]
    exact ⟨rfl,Fi,HLI.out.below HB5.out,HM.out.trans (Mod.of_below HB5.out) (fun _ h=>h) fun x hx h=>absurd hx (Nat.not_lt.2 (Nat.le_trans HM.out.size h)),HFI.out⟩
   | some ps=>
    rw [hd] at hR5
    obtain ⟨v5,rfl,hP5⟩:=hR5
    obtain ⟨a5,n5,c5,rfl⟩: ∃a n c,v5= .slice a n c:=by
     obtain ⟨xs, -,hO, -⟩:=hP5
     exact hO.shape
    have htr:=decB_trans hd
    have htri:=(transB_iff ps _).1 htr
    have hw34:wr.heap.size≤w4.heap.size:=Nat.le_trans HB3.out.size HB4.out.size
    have hFlt: ∀b,Fi b→b<wr.heap.size:=HLI.out.lt
    have htk:=take_any (HLI.out.below HB5.out) (.slice a5 n5 c5) ps (hP5.away fun b hb=>Nat.lt_of_lt_of_le (hFlt b hb) hw34) (fun q hq=>(htri.2.2.1 q hq).1) (fun q hq=>by rw [(htri.2.2.1 q hq).2.2];decide) (by omega)
    have HTK:=Lib.hid htk
    have HD5:=Lib.hid hd
    -- the pieces
    have hne:=joinB_ne HJ.out
    obtain ⟨q0,rr,hq0⟩: ∃q r,li.recordB d fl=q::r:=by
     cases hrr:li.recordB d fl with
     | nil=>exact absurd hrr hne
     | cons q r=>exact ⟨q,r,rfl⟩
    obtain ⟨xs2,hxs2,hO2, -⟩:=HP2.out
    have hsl2:=hO2.sl elPc.len
    obtain ⟨x0,hx0⟩: ∃x,xs2[0]?=some x:=by
     cases xs2 with
     | nil=>rw [hq0] at hxs2;cases hxs2
     | cons x _=>exact ⟨x,rfl⟩
    have hx0e:x0.1=q0:=by
     have:=congrArg (fun l=>l[0]?) hxs2
     simp only [List.getElem?_map,hx0,hq0] at this
     exact Option.some.inj this
    obtain ⟨a7,c7,he7,hc71,hc72,hc73⟩:=hsl2
    have hn2:n2=(li.recordB d fl).length:=by
     have h1:n2=xs2.length:=(Value.slice.inj he7).2.1
     rw [h1, ←hxs2];simp
    obtain ⟨b2,o2,hb2e,hb2l,hcells⟩:=hc73 (by have:=(List.getElem?_eq_some_iff.1 hx0).1;omega)
    have ha2:a2=some ⟨b2,o2,none⟩:=by rw [←hb2e];exact (Value.slice.inj he7).1
    have hb2lo:=hO2.lo b2 (by rw [ha2];rfl)
    have hce:=hcells 0 x0 hx0 0 (by simp [enPc])
    obtain ⟨⟨pe,pt,pf,pl,pd⟩,sv0⟩:=x0
    have hce':w2.cell? ⟨b2,o2+0*5+0,none⟩=some (.int .u64 (pe:Nat)):=hce
    simp only [Nat.zero_mul,Nat.add_zero] at hce'
    have hw25:Below w2.heap.size w2 w5:=HB23.out.trans (HB45.out.mono HB23.out.size)
    have hce5:=(hw25.cell (p:=⟨b2,o2,none⟩) hb2l).trans hce'
    have hpe:q0.ep=pe:=by rw [←hx0e]
    have hstep:=replay_step htt hq0 (by rw [←hq0];exact HJ.out) HD5.out
    rw [←hq0,hpe] at hstep
    have HST:=Lib.hid (hstep.symm.trans HREP.out)
    have HCE5:=Lib.hid hce5
    have hpe63:pe<2 ^ 63:=by
     have:=HEP.out q0 (by rw [hq0];simp)
     omega
    have hlenp:0<n2:=by rw [hn2,hq0];simp
    have hn2f:n2≤li.free:=by rw [hn2];exact hrl
    have HN2:=Lib.hid hn2
    subst ha2
    clear htr htri htk hd hne hq0 hxs2 hO2 hx0 hx0e he7 hc71 hc72 hc73 hn2 hb2e hcells hce hce' hw25 hce5 hpe hstep hP5
    go_wp2_with fail
    refine HTK.out.mono ?_
    rintro e w6 ⟨rfl,F6,hL6,hm6,hF6⟩
    have hN:=LAt.setNext hL6 (li.next+n2)
    have hmN:Mod (fun b=>b=g) w6 (w6.setCell ⟨g,5,none⟩ (.int .u64 ((li.next+n2:Nat):Int))):=(Mod.refl _ _).setCell _ _ fun _=>rfl
    obtain ⟨m6,L6,clk6,hb6, -⟩:=hL6.ex
    have q5:=cell_of (o:=5) hb6 rfl
    have f5:=free_of (o:=5) hb6
    have hgF:Fi g:=HLI.out.fg
    have hb2F:¬ Fi b2:=fun e=>by have:=hFlt b2 e;omega
    have hc6:(w6.setCell ⟨g,5,none⟩ (.int .u64 ((li.next+n2:Nat):Int))).cell? ⟨b2,o2,none⟩=some (.int .u64 (pe:Nat)):=cell_mod (cell_mod HCE5.out hm6 hb2F) hmN (fun e=>by have e:b2=g:=e;exact hb2F (e ▸ hgF))
    have hmF:Mod F w (w6.setCell ⟨g,5,none⟩ (.int .u64 ((li.next+n2:Nat):Int))):=by
     have h1:Mod F w w5:=HM.out.trans (Mod.of_below HB5.out) (fun _ h=>h) fun x hx h=>absurd hx (Nat.not_lt.2 (Nat.le_trans HM.out.size h))
     have h2:Mod F w w6:=h1.trans hm6 (fun _ h=>h) fun x hx h=>(HFI.out x h).resolve_right (by omega)
     exact h2.trans hmN (fun _ h=>h) fun x hx h=>by
      have h:x=g:=h
      rw [h] at hx ⊢
      exact (HFI.out g hgF).resolve_right (by omega)
    have hF6': ∀b,F6 b→F b∨w.heap.size≤b:=fun b hb=>by
     rcases hF6 b hb with h|h
     ·exact HFI.out b h
     ·exact .inr (Nat.le_trans HM.out.size (Nat.le_trans HB5.out.size h))
    have HNL:Hid (LAt (w6.setCell ⟨g,5,none⟩ (.int .u64 ((li.next+n2:Nat):Int))) F6 g p {li with H:=takeH li.H ps,next:=li.next+n2}):=Lib.hid hN
    have hnxo:=nextOf_at hN
    rw [Int.natCast_add] at hc6 hmF hnxo
    have HNX2:=Lib.hid hnxo
    have HMF:=Lib.hid hmF
    have HF6:=Lib.hid hF6'
    have hnx63:((li.next:Nat):Int)<4398046511104:=by omega
    have hn263:((n2:Nat):Int)≤4096:=by omega
    have hn2p:(0:Int)<((n2:Nat):Int):=by omega
    clear hL6 hm6 hF6 hN hmN hb6 hmF hF6' hnxo
    go_wp2
    go_roundw
    case rel=>exact ⟨{li with H:=takeH li.H ps,next:=li.next+n2},pe,F6,rfl,hpe63,HN.out,HTL.out,by show l.tail≤li.next+n2;omega,by have h1:=HN.out;have h2:=HTL.out;have h3:li.free=li.n-(li.next-li.tail):=rfl;show li.next+n2≤l.tail+l.n;omega,by have:=HNL.out;rw [Int.natCast_add] at this;exact this,HMF.out,HF6.out,by have:=HST.out;rw [←HN2.out] at this;exact this⟩
    case measure=>
     have h1:nextOf g (w6.setCell ⟨g,5,none⟩ (.int .u64 (((li.next:Nat):Int)+((n2:Nat):Int))))=li.next+n2:=HNX2.out
     have h2:=HNX.out
     have h3:=HN.out
     have h4:=HTL.out
     have h5:li.free=li.n-(li.next-li.tail):=rfl
     omega
def log0 (n ep gen tail:Nat):Lg:=⟨n,ep,gen,tail,tail,fun _=>none,0⟩
def openB (d:Dsk) (n:Nat):Option Lg:=
 if 16777215≤newestB d (2+n) then none
 else some (replayL (log0 n (newestB d (2+n)+1) ((d.head 0).getD hd0).gen ((d.head 0).getD hd0).tail) d (if (d.head 0).isSome=true then ((d.head 0).getD hd0).floor else 1))
theorem hdB_lt {bs:List Nat} {i:Nat} {h:Hd} (hh:hdB bs i=some h):h.tail<2 ^ 40∧h.floor<2 ^ 24:=by
 unfold hdB at hh
 split at hh
 ·unfold headP at hh
  split at hh
  ·cases hh
   exact ⟨natOf_take_lt _ _,natOf_take_lt _ _⟩
  ·cases hh
 ·cases hh
theorem head_lt {d:Dsk} {a:Nat} {h:Hd} (hh:d.head a=some h):h.tail<2 ^ 40∧h.floor<2 ^ 24:=by
 have key:d.head a=hdB (d.get a) 0∨d.head a=hdB (d.get (a+1)) 1:=by
  unfold Dsk.head newer
  split
  ·exact .inl rfl
  ·rename_i y hy
   split
   ·exact .inr hy.symm
   ·rename_i x hx
    split
    ·exact .inr hy.symm
    ·exact .inl hx.symm
 rcases key with e|e
 ·rw [e] at hh;exact hdB_lt hh
 ·rw [e] at hh;exact hdB_lt hh
theorem headD_lt (d:Dsk) (a:Nat):((d.head a).getD hd0).tail<2 ^ 40∧((d.head a).getD hd0).floor<2 ^ 24:=by
 cases hh:d.head a with
 | none=>exact ⟨by decide,by decide⟩
 | some h=>exact head_lt hh
set_option maxRecDepth 20000 in
set_option maxHeartbeats 4000000 in
theorem open_main {w:World} {FD:Nat→Prop} {p:Nat} {d:Dsk} (hd:DAt w FD p d) (n:Nat) (hn2:2≤n) (hnd:n+3≤d.L.length) (hn4:n≤4096) (hf:newestB d (2+n)<16777215) (l:Lg) (hl:openB d n=some l):
  Calls Tryz.prog 14 #[.pointer (some ⟨p,0,none⟩), .int .i64 n] w fun e w'=> ∃g F,e= .returned (.tuple #[.pointer (some ⟨g,0,none⟩), .int .i64 0])∧LAt w' F g p l∧Below w.heap.size w w'∧ ∀b,F b→w.heap.size≤b:=by
 have hsz:=size_any hd
 have hlo:=hd.ok.lo
 have hhi:=hd.ok.hi
 have h0:((d.L.length:Int)==0)=false:=beq_eq_false_iff_ne.2 (by omega)
 have h63:(d.L.length:Int)≤4096:=by omega
 have h1:(1:Int)≤d.L.length:=by omega
 have hd1:decide ((n:Int)<2)=false:=by simp;omega
 have hd2:decide ((d.L.length:Int)-2-1<n)=false:=by simp;omega
 have hmap:(w.alloc (.map #[] 0)).heap[w.heap.size]?=some (.map (ents encI []) 0):=heap_alloc_at
 have hz1:(w.alloc (.map #[] 0)).heap.size=w.heap.size+1:=by simp
 obtain ⟨w2,hw2⟩: ∃w2,(w.alloc (.map #[] 0)).alloc (.cells #[.pointer (some ⟨p,0,none⟩), .int .i64 (n:Nat), .int .u64 0, .int .u64 0, .int .u64 0, .int .u64 0, .map (some w.heap.size), .int .i64 0] 120)=w2:=⟨_,rfl⟩
 have hb2:Below w.heap.size w w2:=by
  rw [←hw2]
  exact ((Below.refl _ _).alloc (Nat.le_refl _) _).alloc (by rw [hz1];omega) _
 have hz2:w2.heap.size=w.heap.size+2:=by rw [←hw2];simp
 have hL:LAt w2 (fun b=>b=w.heap.size∨b=w.heap.size+1) (w.heap.size+1) p (log0 n 0 0 0):=by
  refine ⟨⟨w.heap.size, [],0,?_,⟨?_,WF.nil 0,(fun e he=>by cases he),(fun k hk=>absurd rfl hk), .inl rfl⟩,by omega,fun e he=>by cases he⟩, .inr rfl,?_⟩
  ·rw [←hw2, ←hz1]
   exact heap_alloc_at
  ·rw [←hw2]
   exact heap_alloc_of hmap
  ·rintro b (rfl|rfl)<;>omega
 have hnw:=newest_any hL (hd.below hb2) (by show n+3≤_;omega)
 have hln:(log0 n 0 0 0).n=n:=rfl
 rw [hln] at hnw
 have hlt:=newest_lt hd.ok (2+n) (by omega)
 have hge:decide (16777215≤newestB d (2+n))=false:=by simp [hf]
 have hge2:decide ((16777215:Int)≤(newestB d (2+n):Nat))=false:=by simp;omega
 have hl2:l=replayL (log0 n (newestB d (2+n)+1) ((d.head 0).getD hd0).gen ((d.head 0).getD hd0).tail) d (if (d.head 0).isSome=true then ((d.head 0).getD hd0).floor else 1):=by
  unfold openB at hl
  rw [if_neg (by omega)] at hl
  exact (Option.some.inj hl).symm
 have HLL:=Lib.hid hl2
 have htl:((d.head 0).getD hd0).tail<2 ^ 41:=Nat.lt_trans (headD_lt d 0).1 (by decide)
 have HDD:=Lib.hid hd
 have HLT:=Lib.hid hL
 clear hl hl2
 generalize newestB d (2+n)=nw at*
 have HB2:=Lib.hid hb2
 have HW2:=Lib.hid hw2
 have HZ2:=Lib.hid hz2
 have hmm:= @run_makeMap Tryz.prog
 clear hd hb2 hL hmap hf hz1 hz2 hln
 go_enter Tryz.func14,Tryz.ntmps14
 go_upto_region 6 with (first
  | (go_at_call 48;refine hsz.mono ?_;rintro e w2 ⟨rfl,hw⟩;obtain rfl:=hw.symm;clear hw)
  | fail)
 clear hw2
 go_upto_region 11 with (first
  | (go_at_call 53;refine hnw.mono ?_;rintro e w3 ⟨rfl,hb3⟩;have HB3:=Lib.hid hb3;clear hb3)
  | fail)
 have hw3:w2.heap.size≤w3.heap.size:=HB3.out.size
 have hld:=hload_any ((HDD.out.below HB2.out).below HB3.out) 0 (by omega)
 go_wp2_with fail
 refine hld.mono ?_
 rintro e w4 ⟨rfl,hb4⟩
 have HB4:Hid (Below w2.heap.size w2 w4):=Lib.hid (HB3.out.trans (hb4.mono hw3))
 clear hld hb4
 have hHV:hloadV (d.head 0)= .tuple #[.agg (hdCs ((d.head 0).getD hd0)), .bool (d.head 0).isSome, .int .i64 0]:=rfl
 have hfl24:((d.head 0).getD hd0).floor<2 ^ 63:=Nat.lt_trans (headD_lt d 0).2 (by decide)
 rw [hHV]
 clear hHV
 generalize (d.head 0).getD hd0=X at*
 generalize (d.head 0).isSome=sm at*
 obtain ⟨hg,ht,hf0⟩:=X
 simp only [hdCs_lit] at*
 have hw4:w2.heap.size≤w4.heap.size:=HB4.out.size
 have hz2:=HZ2.out
 have hbx:(w4.alloc (.cells #[.int .u64 (hg:Nat), .int .u64 (ht:Nat), .int .u64 (hf0:Nat)] 123)).heap[w4.heap.size]?=some (.cells #[.int .u64 (hg:Nat), .int .u64 (ht:Nat), .int .u64 (hf0:Nat)] 123 (0,0)):=heap_alloc_at
 have hb5:Below w2.heap.size w2 (w4.alloc (.cells #[.int .u64 (hg:Nat), .int .u64 (ht:Nat), .int .u64 (hf0:Nat)] 123)):=HB4.out.alloc hw4 _
 have hL5:=HLT.out.below hb5
 have HBX:=Lib.hid hbx
 have HB5:=Lib.hid hb5
 have HL5:=Lib.hid hL5
 have hs2:=cell_of (o:=2) hbx rfl
 have hfr2:=free_of (o:=2) hbx
 clear hbx hb5 hL5
 cases sm with
 | true=>
  go_upto_region 16 with fail
  clear hs2 hfr2
  generalize w4.alloc (.cells #[.int .u64 (hg:Nat), .int .u64 (ht:Nat), .int .u64 (hf0:Nat)] 123)=W at*
  obtain ⟨m9,L9,clk9,hb9,hH9,hmg9, -⟩:=HL5.out.ex
  have hne9:w4.heap.size≠w.heap.size+1:=by omega
  have hS:W.drew.cell? ⟨w4.heap.size,0,none⟩=some (.int .u64 (hg:Nat))∧W.drew.cell? ⟨w4.heap.size,1,none⟩=some (.int .u64 (ht:Nat)):=⟨cell_of (o:=0) HBX.out rfl,cell_of (o:=1) HBX.out rfl⟩
  have g2:=cell_of (o:=2) hb9 rfl
  have g3:=cell_of (o:=3) hb9 rfl
  refine wp_region_x (fun w'=>w'.cell? ⟨w4.heap.size,0,none⟩=some (.int .u64 (hg:Nat))∧w'.cell? ⟨w4.heap.size,1,none⟩=some (.int .u64 (ht:Nat))) [(0,1),(1,1),(2,1),(3,1),(4,1),(5,1),(6,1),(7,0),(8,1),(9,0),(10,1),(11,0),(12,1),(13,1),(14,2),(15,1),(16,1),(17,2),(18,1),(19,1),(20,2),(21,1),(22,1),(23,2)] (by kernel_rfl) (by kernel_rfl) (by intro d v c a w h;cases d<;>exact h) ?_
  have HUN:Hid (IntKind.u64.wrap ((nw:Nat)+1:Int)=((nw+1:Nat):Int)):=Lib.hid (by rw [IntWalk.u64_in _ (by omega)];omega)
  iterate 7 (refine x_take rfl (fun K hK=> ?_);go_simp;refine hK _ ?_;clear hK K)
  rw [HUN.out]
  refine x_read rfl hS (fun w' h=>exec_load1 ⟨⟨_,Tryz.underlying37,rfl⟩⟩ rfl h.1) ?_
  iterate 1 (refine x_take rfl (fun K hK=> ?_);go_simp;refine hK _ ?_;clear hK K)
  refine x_read rfl hS (fun w' h=>exec_load1 ⟨⟨_,Tryz.underlying37,rfl⟩⟩ rfl h.2) ?_
  iterate 1 (refine x_take rfl (fun K hK=> ?_);go_simp;refine hK _ ?_;clear hK K)
  refine x_read rfl hS (fun w' h=>exec_load1 ⟨⟨_,Tryz.underlying37,rfl⟩⟩ rfl h.2) ?_
  iterate 2 (refine x_take rfl (fun K hK=> ?_);go_simp;refine hK _ ?_;clear hK K)
  have f9:=free_of (o:=2) hb9
  have k1:=heap_setCell_at (w:=W.drew) (o:=2) (v:= .int .u64 ((nw+1:Nat):Int)) hb9
  have m1:Mod (fun b=>b=w.heap.size+1) W.drew (W.drew.setCell ⟨w.heap.size+1,2,none⟩ (.int .u64 ((nw+1:Nat):Int))):=(Mod.refl _ _).setCell _ _ fun _=>rfl
  have s1:=And.intro (cell_mod hS.1 m1 hne9) (cell_mod hS.2 m1 hne9)
  refine x_skipS rfl (exec_store1 (v:= .int .u64 ((nw+1:Nat):Int)) ⟨⟨_,Tryz.underlying37,rfl⟩⟩ (by kernel_rfl) rfl rfl rfl g2 f9) s1 ?_
  generalize W.drew.setCell ⟨w.heap.size+1,2,none⟩ (.int .u64 ((nw+1:Nat):Int))=W1 at*
  iterate 2 (refine x_take rfl (fun K hK=> ?_);go_simp;refine hK _ ?_;clear hK K)
  have k2:=heap_setCell_at (o:=3) (v:= .int .u64 ((hg:Nat):Int)) k1
  have m2:Mod (fun b=>b=w.heap.size+1) W1 (W1.setCell ⟨w.heap.size+1,3,none⟩ (.int .u64 ((hg:Nat):Int))):=(Mod.refl _ _).setCell _ _ fun _=>rfl
  have s2:=And.intro (cell_mod s1.1 m2 hne9) (cell_mod s1.2 m2 hne9)
  refine x_skipS rfl (exec_store1 (v:= .int .u64 ((hg:Nat):Int)) ⟨⟨_,Tryz.underlying37,rfl⟩⟩ (by kernel_rfl) rfl rfl rfl (cell_of (o:=3) k1 rfl) (free_of k1)) s2 ?_
  generalize W1.setCell ⟨w.heap.size+1,3,none⟩ (.int .u64 ((hg:Nat):Int))=W2 at*
  iterate 2 (refine x_take rfl (fun K hK=> ?_);go_simp;refine hK _ ?_;clear hK K)
  have k3:=heap_setCell_at (o:=4) (v:= .int .u64 ((ht:Nat):Int)) k2
  have m3:Mod (fun b=>b=w.heap.size+1) W2 (W2.setCell ⟨w.heap.size+1,4,none⟩ (.int .u64 ((ht:Nat):Int))):=(Mod.refl _ _).setCell _ _ fun _=>rfl
  have s3:=And.intro (cell_mod s2.1 m3 hne9) (cell_mod s2.2 m3 hne9)
  refine x_skipS rfl (exec_store1 (v:= .int .u64 ((ht:Nat):Int)) ⟨⟨_,Tryz.underlying37,rfl⟩⟩ (by kernel_rfl) rfl rfl rfl (cell_of (o:=4) k2 rfl) (free_of k2)) s3 ?_
  generalize W2.setCell ⟨w.heap.size+1,4,none⟩ (.int .u64 ((ht:Nat):Int))=W3 at*
  iterate 2 (refine x_take rfl (fun K hK=> ?_);go_simp;refine hK _ ?_;clear hK K)
  have k4:=heap_setCell_at (o:=5) (v:= .int .u64 ((ht:Nat):Int)) k3
  have m4:Mod (fun b=>b=w.heap.size+1) W3 (W3.setCell ⟨w.heap.size+1,5,none⟩ (.int .u64 ((ht:Nat):Int))):=(Mod.refl _ _).setCell _ _ fun _=>rfl
  have s4:=And.intro (cell_mod s3.1 m4 hne9) (cell_mod s3.2 m4 hne9)
  refine x_skipS rfl (exec_store1 (v:= .int .u64 ((ht:Nat):Int)) ⟨⟨_,Tryz.underlying37,rfl⟩⟩ (by kernel_rfl) rfl rfl rfl (cell_of (o:=5) k3 rfl) (free_of k3)) s4 ?_
  generalize W3.setCell ⟨w.heap.size+1,5,none⟩ (.int .u64 ((ht:Nat):Int))=W4 at*
  refine x_nil ?_
  have m14:Mod (fun b=>b=w.heap.size+1) W.drew W4:=((m1.trans m2 (fun _ h=>h) fun _ _ h=>h).trans m3 (fun _ h=>h) fun _ _ h=>h).trans m4 (fun _ h=>h) fun _ _ h=>h
  have q2:W4.cell? ⟨w4.heap.size,2,none⟩=some (.int .u64 (hf0:Nat)):=cell_mod (w:=W.drew) (cell_of (o:=2) HBX.out rfl) m14 hne9
  have hL9:LAt W4 (fun b=>b=w.heap.size∨b=w.heap.size+1) (w.heap.size+1) p (log0 n (nw+1) hg ht):=by
   refine ⟨⟨m9,L9,clk9,k4,?_,hmg9,?_⟩, .inr rfl,fun b hb=>Nat.lt_of_lt_of_le (HL5.out.lt b hb) m14.size⟩
   ·refine ⟨m14.heap (w:=W4) hH9.blk hmg9,hH9.wf,fun e he=> ?_,hH9.all,hH9.fm⟩
    obtain ⟨k,_,b,hk,_⟩:=hH9.key e he
    cases hk
   ·intro e he
    obtain ⟨k,_,b,hk,_⟩:=hH9.key e he
    cases hk
  have hD9:DAt W4 FD p d:=((HDD.out.below HB2.out).below HB5.out).drew.mod m14 fun b hb e=>by have:=HDD.out.lt b hb;omega
  have hrp:=replay_any hL9 hD9 (fun b hb e=>by have:=HDD.out.lt b e;rcases hb with h|h<;>omega) hn2 hn4 hnd (Nat.le_refl _) (Nat.le_add_right _ _) htl hf0 hfl24
  have HM:=Lib.hid m14
  clear k1 k2 k3 k4 m1 m2 m3 m4 m14 s1 s2 s3 s4 hS hb9 hH9 g2 g3 f9 hL9 hD9
  go_wp2_with fail
  refine hrp.mono ?_
  rintro e w9 ⟨rfl,F9,hL9,hm9,hF9⟩
  have HL9:=Lib.hid hL9
  have HM9:=Lib.hid hm9
  have HF9:=Lib.hid hF9
  have hWz:w2.heap.size≤W.heap.size:=HB5.out.size
  have hWz2:W.heap.size≤W4.heap.size:=HM.out.size
  clear hL9 hm9 hF9 hrp
  go_wp2
  go_ret2
  have hlast:l=replayL (log0 n (nw+1) hg ht) d hf0:=HLL.out
  rw [hlast]
  refine ⟨w.heap.size+1,F9,rfl,HL9.out,?_,fun b hb=> ?_⟩
  ·have h1:Below w.heap.size w W:=HB2.out.trans (HB5.out.mono (by omega))
   have h2:Below w.heap.size w W4:=h1.drew.trans (HM.out.below (by show w.heap.size≤W.heap.size;omega) fun x hx e=>by omega)
   exact h2.trans (HM9.out.below (by omega) fun x hx e=>by rcases e with e|e<;>omega)
  ·rcases HF9.out b hb with (h|h)|h<;>omega
 | false=>
  go_upto_region 16 with fail
  have HBXn:Hid ((w4.alloc (.cells #[.int .u64 (hg:Nat), .int .u64 (ht:Nat), .int .u64 1] 123)).heap[w4.heap.size]?=some (.cells #[.int .u64 (hg:Nat), .int .u64 (ht:Nat), .int .u64 1] 123 (0,0))):=Lib.hid heap_alloc_at
  have hb5n:Below w2.heap.size w2 (w4.alloc (.cells #[.int .u64 (hg:Nat), .int .u64 (ht:Nat), .int .u64 1] 123)):=HB4.out.alloc hw4 _
  have HL5n:=Lib.hid (HLT.out.below hb5n)
  have HB5n:=Lib.hid hb5n
  clear hs2 hfr2 HBX HB5 HL5 hb5n
  have HBX:=HBXn
  have HB5:=HB5n
  have HL5:=HL5n
  clear HBXn HB5n HL5n
  generalize w4.alloc (.cells #[.int .u64 (hg:Nat), .int .u64 (ht:Nat), .int .u64 1] 123)=W at*
  obtain ⟨m9,L9,clk9,hb9,hH9,hmg9, -⟩:=HL5.out.ex
  have hne9:w4.heap.size≠w.heap.size+1:=by omega
  have hS:W.drew.cell? ⟨w4.heap.size,0,none⟩=some (.int .u64 (hg:Nat))∧W.drew.cell? ⟨w4.heap.size,1,none⟩=some (.int .u64 (ht:Nat)):=⟨cell_of (o:=0) HBX.out rfl,cell_of (o:=1) HBX.out rfl⟩
  have g2:=cell_of (o:=2) hb9 rfl
  have g3:=cell_of (o:=3) hb9 rfl
  refine wp_region_x (fun w'=>w'.cell? ⟨w4.heap.size,0,none⟩=some (.int .u64 (hg:Nat))∧w'.cell? ⟨w4.heap.size,1,none⟩=some (.int .u64 (ht:Nat))) [(0,1),(1,1),(2,1),(3,1),(4,1),(5,1),(6,1),(7,0),(8,1),(9,0),(10,1),(11,0),(12,1),(13,1),(14,2),(15,1),(16,1),(17,2),(18,1),(19,1),(20,2),(21,1),(22,1),(23,2)] (by kernel_rfl) (by kernel_rfl) (by intro d v c a w h;cases d<;>exact h) ?_
  have HUN:Hid (IntKind.u64.wrap ((nw:Nat)+1:Int)=((nw+1:Nat):Int)):=Lib.hid (by rw [IntWalk.u64_in _ (by omega)];omega)
  iterate 7 (refine x_take rfl (fun K hK=> ?_);go_simp;refine hK _ ?_;clear hK K)
  rw [HUN.out]
  refine x_read rfl hS (fun w' h=>exec_load1 ⟨⟨_,Tryz.underlying37,rfl⟩⟩ rfl h.1) ?_
  iterate 1 (refine x_take rfl (fun K hK=> ?_);go_simp;refine hK _ ?_;clear hK K)
  refine x_read rfl hS (fun w' h=>exec_load1 ⟨⟨_,Tryz.underlying37,rfl⟩⟩ rfl h.2) ?_
  iterate 1 (refine x_take rfl (fun K hK=> ?_);go_simp;refine hK _ ?_;clear hK K)
  refine x_read rfl hS (fun w' h=>exec_load1 ⟨⟨_,Tryz.underlying37,rfl⟩⟩ rfl h.2) ?_
  iterate 2 (refine x_take rfl (fun K hK=> ?_);go_simp;refine hK _ ?_;clear hK K)
  have f9:=free_of (o:=2) hb9
  have k1:=heap_setCell_at (w:=W.drew) (o:=2) (v:= .int .u64 ((nw+1:Nat):Int)) hb9
  have m1:Mod (fun b=>b=w.heap.size+1) W.drew (W.drew.setCell ⟨w.heap.size+1,2,none⟩ (.int .u64 ((nw+1:Nat):Int))):=(Mod.refl _ _).setCell _ _ fun _=>rfl
  have s1:=And.intro (cell_mod hS.1 m1 hne9) (cell_mod hS.2 m1 hne9)
  refine x_skipS rfl (exec_store1 (v:= .int .u64 ((nw+1:Nat):Int)) ⟨⟨_,Tryz.underlying37,rfl⟩⟩ (by kernel_rfl) rfl rfl rfl g2 f9) s1 ?_
  generalize W.drew.setCell ⟨w.heap.size+1,2,none⟩ (.int .u64 ((nw+1:Nat):Int))=W1 at*
  iterate 2 (refine x_take rfl (fun K hK=> ?_);go_simp;refine hK _ ?_;clear hK K)
  have k2:=heap_setCell_at (o:=3) (v:= .int .u64 ((hg:Nat):Int)) k1
  have m2:Mod (fun b=>b=w.heap.size+1) W1 (W1.setCell ⟨w.heap.size+1,3,none⟩ (.int .u64 ((hg:Nat):Int))):=(Mod.refl _ _).setCell _ _ fun _=>rfl
  have s2:=And.intro (cell_mod s1.1 m2 hne9) (cell_mod s1.2 m2 hne9)
  refine x_skipS rfl (exec_store1 (v:= .int .u64 ((hg:Nat):Int)) ⟨⟨_,Tryz.underlying37,rfl⟩⟩ (by kernel_rfl) rfl rfl rfl (cell_of (o:=3) k1 rfl) (free_of k1)) s2 ?_
  generalize W1.setCell ⟨w.heap.size+1,3,none⟩ (.int .u64 ((hg:Nat):Int))=W2 at*
  iterate 2 (refine x_take rfl (fun K hK=> ?_);go_simp;refine hK _ ?_;clear hK K)
  have k3:=heap_setCell_at (o:=4) (v:= .int .u64 ((ht:Nat):Int)) k2
  have m3:Mod (fun b=>b=w.heap.size+1) W2 (W2.setCell ⟨w.heap.size+1,4,none⟩ (.int .u64 ((ht:Nat):Int))):=(Mod.refl _ _).setCell _ _ fun _=>rfl
  have s3:=And.intro (cell_mod s2.1 m3 hne9) (cell_mod s2.2 m3 hne9)
  refine x_skipS rfl (exec_store1 (v:= .int .u64 ((ht:Nat):Int)) ⟨⟨_,Tryz.underlying37,rfl⟩⟩ (by kernel_rfl) rfl rfl rfl (cell_of (o:=4) k2 rfl) (free_of k2)) s3 ?_
  generalize W2.setCell ⟨w.heap.size+1,4,none⟩ (.int .u64 ((ht:Nat):Int))=W3 at*
  iterate 2 (refine x_take rfl (fun K hK=> ?_);go_simp;refine hK _ ?_;clear hK K)
  have k4:=heap_setCell_at (o:=5) (v:= .int .u64 ((ht:Nat):Int)) k3
  have m4:Mod (fun b=>b=w.heap.size+1) W3 (W3.setCell ⟨w.heap.size+1,5,none⟩ (.int .u64 ((ht:Nat):Int))):=(Mod.refl _ _).setCell _ _ fun _=>rfl
  have s4:=And.intro (cell_mod s3.1 m4 hne9) (cell_mod s3.2 m4 hne9)
  refine x_skipS rfl (exec_store1 (v:= .int .u64 ((ht:Nat):Int)) ⟨⟨_,Tryz.underlying37,rfl⟩⟩ (by kernel_rfl) rfl rfl rfl (cell_of (o:=5) k3 rfl) (free_of k3)) s4 ?_
  generalize W3.setCell ⟨w.heap.size+1,5,none⟩ (.int .u64 ((ht:Nat):Int))=W4 at*
  refine x_nil ?_
  have m14:Mod (fun b=>b=w.heap.size+1) W.drew W4:=((m1.trans m2 (fun _ h=>h) fun _ _ h=>h).trans m3 (fun _ h=>h) fun _ _ h=>h).trans m4 (fun _ h=>h) fun _ _ h=>h
  have q2:W4.cell? ⟨w4.heap.size,2,none⟩=some (.int .u64 1):=cell_mod (w:=W.drew) (cell_of (o:=2) HBX.out rfl) m14 hne9
  have hL9:LAt W4 (fun b=>b=w.heap.size∨b=w.heap.size+1) (w.heap.size+1) p (log0 n (nw+1) hg ht):=by
   refine ⟨⟨m9,L9,clk9,k4,?_,hmg9,?_⟩, .inr rfl,fun b hb=>Nat.lt_of_lt_of_le (HL5.out.lt b hb) m14.size⟩
   ·refine ⟨m14.heap (w:=W4) hH9.blk hmg9,hH9.wf,fun e he=> ?_,hH9.all,hH9.fm⟩
    obtain ⟨k,_,b,hk,_⟩:=hH9.key e he
    cases hk
   ·intro e he
    obtain ⟨k,_,b,hk,_⟩:=hH9.key e he
    cases hk
  have hD9:DAt W4 FD p d:=((HDD.out.below HB2.out).below HB5.out).drew.mod m14 fun b hb e=>by have:=HDD.out.lt b hb;omega
  have hrp:=replay_any hL9 hD9 (fun b hb e=>by have:=HDD.out.lt b e;rcases hb with h|h<;>omega) hn2 hn4 hnd (Nat.le_refl _) (Nat.le_add_right _ _) htl 1 (by decide)
  rw [show ((1:Nat):Int)=1 from rfl] at hrp
  have HM:=Lib.hid m14
  clear k1 k2 k3 k4 m1 m2 m3 m4 m14 s1 s2 s3 s4 hS hb9 hH9 g2 g3 f9 hL9 hD9
  go_wp2_with fail
  refine hrp.mono ?_
  rintro e w9 ⟨rfl,F9,hL9,hm9,hF9⟩
  have HL9:=Lib.hid hL9
  have HM9:=Lib.hid hm9
  have HF9:=Lib.hid hF9
  have hWz:w2.heap.size≤W.heap.size:=HB5.out.size
  have hWz2:W.heap.size≤W4.heap.size:=HM.out.size
  clear hL9 hm9 hF9 hrp
  go_wp2
  go_ret2
  have hlast:l=replayL (log0 n (nw+1) hg ht) d 1:=HLL.out
  rw [hlast]
  refine ⟨w.heap.size+1,F9,rfl,HL9.out,?_,fun b hb=> ?_⟩
  ·have h1:Below w.heap.size w W:=HB2.out.trans (HB5.out.mono (by omega))
   have h2:Below w.heap.size w W4:=h1.drew.trans (HM.out.below (by show w.heap.size≤W.heap.size;omega) fun x hx e=>by omega)
   exact h2.trans (HM9.out.below (by omega) fun x hx e=>by rcases e with e|e<;>omega)
  ·rcases HF9.out b hb with (h|h)|h<;>omega
theorem takeH_some: ∀(ps:List Pt) (H:Nat→Option (List Nat)) (k:Nat) (b:List Nat),takeH H ps k=some b→(∃q∈ps,q.1=(k:Int)∧q.2=b)∨H k=some b
 | [],H,k,b,h=> .inr h
 | q::ps,H,k,b,h=>by
  rcases takeH_some ps _ k b h with ⟨q',h1,h2⟩|h
  ·exact .inl ⟨q',List.mem_cons_of_mem _ h1,h2⟩
  ·simp only at h
   split at h
   ·rename_i hk
    exact .inl ⟨q,List.mem_cons_self,hk.symm,by simpa using h⟩
   ·exact .inr h
theorem takeH_ok {H:Nat→Option (List Nat)} {ps:List Pt} {homes:Nat} (h: ∀k b,H k=some b→k<homes∧secB b) (ht:transB ps homes=true) (hb: ∀q∈ps, ∀x∈q.2,x<256): ∀k b,takeH H ps k=some b→k<homes∧secB b:=by
 intro k b hk
 rcases takeH_some ps H k b hk with ⟨q,h1,h2,rfl⟩|hk
 ·obtain ⟨-, -,h3, -⟩:=(transB_iff ps homes).1 ht
  obtain ⟨h4,h5,h6⟩:=h3 q h1
  exact ⟨by omega,h6,hb q h1⟩
 ·exact h k b hk
structure _root_.Go.Tn.Dk.Lg.fit (l:Lg) (d:Dsk):Prop where
 n2:2≤l.n
 nd:l.n+3≤d.L.length
 epoch:l.epoch≤16777215
 gen:l.gen≤1099511627775
 tail:l.tail≤l.next
 next:l.next≤l.tail+l.n
 err:l.err<256
 H: ∀k b,l.H k=some b→k<l.homes d∧secB b
theorem _root_.Go.Tn.Dk.Lg.fit.ok {l:Lg} {d:Dsk} (h:l.fit d) (hs:l.next<1099511627776):l.ok d:=⟨h.n2,h.nd,h.epoch,h.gen,h.tail,h.next,hs,h.err,h.H⟩
theorem _root_.Go.Tn.Dk.Lg.ok.fit {l:Lg} {d:Dsk} (h:l.ok d):l.fit d:=⟨h.n2,h.nd,h.epoch,h.gen,h.tail,h.next,h.err,h.H⟩
theorem log0_fit {d:Dsk} {n ep gen tail:Nat} (hn2:2≤n) (hnd:n+3≤d.L.length) (he:ep≤16777215) (hg:gen≤1099511627775):(log0 n ep gen tail).fit d:=
 ⟨hn2,hnd,he,hg,Nat.le_refl _,Nat.le_add_right _ _,by simp [log0],fun k b h=>by cases h⟩
theorem write_L (d:Dsk) (i:Nat) (b:List Nat):(d.write i b).L=d.L:=by
 unfold Dsk.write
 split
 ·exact step_L d
 ·exact step_L d
theorem putPcs_L (n:Nat): ∀(ps:List Pc) (d:Dsk),(putPcs n ps d).1.L.length=d.L.length
 | [],d=>rfl
 | q::r,d=>by
  simp only [putPcs]
  split
  ·rw [write_L]
  ·rw [putPcs_L n r,write_L]
theorem dead_lt (d:Dsk):d.dead<256:=by unfold Dsk.dead;split<;>omega
theorem _root_.Go.Tn.Dk.Lg.fit.disk {l:Lg} {d d':Dsk} (h:l.fit d) (hL:d'.L.length=d.L.length):l.fit d':=
 ⟨h.n2,by rw [hL];exact h.nd,h.epoch,h.gen,h.tail,h.next,h.err,fun k b hk=>by
  have:=h.H k b hk
  unfold Lg.homes at this ⊢
  rwa [hL]⟩
theorem flush_L (d:Dsk):d.flush.L.length=d.L.length:=by
 unfold Dsk.flush
 split
 ·rw [step_L]
 ·simp only
  exact laid_len _ _
theorem sync_fit {l:Lg} {d:Dsk} (h:l.fit d):(l.sync d).1.fit (l.sync d).2:=by
 unfold Lg.sync
 split
 ·exact h
 ·have h2:l.fit d.flush:=h.disk (flush_L d)
  exact ⟨h2.n2,h2.nd,h2.epoch,h2.gen,h2.tail,h2.next,dead_lt d,h2.H⟩
end Go.Proofs.YtjdbbnhnbdocbaaGreat
