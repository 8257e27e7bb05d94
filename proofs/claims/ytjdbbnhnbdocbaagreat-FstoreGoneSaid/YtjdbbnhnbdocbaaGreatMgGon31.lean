import Derived.Test.YtjdbbnhnbdocbaaGreatMgGon30
import Derived.Test.YtjdbbnhnbdocbaaGreatMgGon28
namespace Go.Proofs.YtjdbbnhnbdocbaaGreat
open Go.RowKit Go.Tn Go.Tn.Bt Go.Tn.Lp Go.Tn.Dk
def PtB (w:World) (S:Nat→Prop) (v:Value) (ps:List Pt):Prop:= ∃xs:List (Pt×Sv),xs.map (·.1)=ps∧LSl enPt 2 w v xs∧(∀r,v.ownBlock=some r→¬ S r∧r<w.heap.size)∧ ∀x∈xs,LSl en8 1 w (sv x.2) x.1.2∧ ∀r,(sv x.2).ownBlock=some r→¬ S r∧r<w.heap.size
theorem PtsO.b {B:Nat} {w:World} {S:Nat→Prop} {v:Value} {ps:List Pt} (h:PtsO B w v ps) (hS: ∀b,S b→b<B∨w.heap.size≤b):PtB w S v ps:=by
 obtain ⟨xs,h1,h2,h3⟩:=h
 refine ⟨xs,h1,h2.sl elPt.len,fun r hr=>⟨fun e=> ?_,h2.lt hr⟩,fun x hx=>⟨(h3 x hx).1,fun r hr=>⟨fun e=> ?_,((h3 x hx).2 r hr).2.1⟩⟩⟩
 ·have:=h2.lt hr
  have:=h2.lo r hr
  rcases hS r e with h|h<;>omega
 ·have:=((h3 x hx).2 r hr)
  rcases hS r e with h|h<;>omega
theorem PtB.a {w:World} {S:Nat→Prop} {v:Value} {ps:List Pt} (h:PtB w S v ps):PtsA w S v ps:=by
 obtain ⟨xs,h1,h2,h3,h4⟩:=h
 exact ⟨xs,h1,h2,fun r hr=>(h3 r hr).1,fun x hx=>⟨(h4 x hx).1,fun r hr=>((h4 x hx).2 r hr).1⟩⟩
theorem PtB.mod {w w':World} {S S':Nat→Prop} {v:Value} {ps:List Pt} (h:PtB w S v ps) (hm:Mod S w w') (hS: ∀b,S' b→S b∨w.heap.size≤b):PtB w' S' v ps:=by
 obtain ⟨xs,h1,h2,h3,h4⟩:=h
 have key: ∀r,¬ S r∧r<w.heap.size→¬ S' r∧r<w'.heap.size:=fun r hr=>⟨fun e=>by
  rcases hS r e with h|h
  ·exact hr.1 h
  ·omega,Nat.lt_of_lt_of_le hr.2 hm.size⟩
 exact ⟨xs,h1,h2.mod hm fun r hr=>(h3 r hr).1,fun r hr=>key r (h3 r hr),fun x hx=>⟨(h4 x hx).1.mod hm fun r hr=>((h4 x hx).2 r hr).1,fun r hr=>key r ((h4 x hx).2 r hr)⟩⟩
theorem live_write {d:Dsk} (i:Nat) (b:List Nat):
  (d.dead=7∧(d.write i b).off=true∧(d.write i b).L=d.L∧(d.write i b).Q=d.Q)∨(d.dead=0∧(d.write i b).off=false∧(d.write i b).L=d.L∧(d.write i b).Q=d.Q++ [(i,b)]):=by
 unfold Dsk.write Dsk.dead
 by_cases hs:d.step.off=true
 ·rw [if_pos hs,if_pos hs]
  exact .inl ⟨rfl,hs,step_L d,step_Q d⟩
 ·rw [if_neg hs,if_neg hs]
  exact .inr ⟨rfl,by simpa using hs,step_L d,rfl⟩
theorem live_flush {d:Dsk}:
  (d.dead=7∧d.flush.off=true∧d.flush.L=d.L∧d.flush.Q=d.Q)∨(d.dead=0∧d.flush.off=false∧d.flush.L=laid d.Q d.L∧d.flush.Q= []):=by
 unfold Dsk.flush Dsk.dead
 by_cases hs:d.step.off=true
 ·rw [if_pos hs,if_pos hs]
  exact .inl ⟨rfl,hs,step_L d,step_Q d⟩
 ·rw [if_neg hs,if_neg hs]
  exact .inr ⟨rfl,by simpa using hs,rfl,rfl⟩
theorem putPcs_live (n:Nat): ∀(ps:List Pc) (d:Dsk),d.off=false→
  ((putPcs n ps d).2=0∧(putPcs n ps d).1.off=false∧(putPcs n ps d).1.L=d.L∧(putPcs n ps d).1.Q=d.Q++ringQ n ps)∨
  ((putPcs n ps d).2=7∧(putPcs n ps d).1.off=true∧(putPcs n ps d).1.L=d.L∧ ∃m,(putPcs n ps d).1.Q=d.Q++ringQ n (ps.take m))
 | [],d,h=> .inl ⟨rfl,h,rfl,by simp [putPcs,ringQ]⟩
 | q::r,d,_=>by
  simp only [putPcs]
  rcases live_write (d:=d) (2+q.ct %n) (sealB q) with ⟨h1,h2,h3,h4⟩|⟨h1,h2,h3,h4⟩
  ·rw [if_pos (by rw [h1];decide)]
   exact .inr ⟨h1,h2,h3,0,by rw [h4];simp [ringQ]⟩
  ·rw [if_neg (by rw [h1];decide)]
   rcases putPcs_live n r (d.write (2+q.ct %n) (sealB q)) h2 with ⟨e1,e2,e3,e4⟩|⟨e1,e2,e3,m,e4⟩
   ·exact .inl ⟨e1,e2,e3.trans h3,by rw [e4,h4];simp [ringQ]⟩
   ·exact .inr ⟨e1,e2,e3.trans h3,m+1,by rw [e4,h4];simp [ringQ]⟩
theorem bringGo_live (l:Lg): ∀(ks:List Nat) (d:Dsk),d.off=false→
  ((bringGo l ks d).2=0∧(bringGo l ks d).1.off=false∧(bringGo l ks d).1.L=laid (d.Q++homeQ l ks) d.L∧(bringGo l ks d).1.Q= [])∨
  ((bringGo l ks d).2=7∧(bringGo l ks d).1.off=true∧(bringGo l ks d).1.L=d.L∧ ∃m,(bringGo l ks d).1.Q=d.Q++homeQ l (ks.take m))
 | [],d,_=>by
  simp only [bringGo]
  rcases live_flush (d:=d) with ⟨h1,h2,h3,h4⟩|⟨h1,h2,h3,h4⟩
  ·exact .inr ⟨h1,h2,h3,0,by rw [h4];simp [homeQ]⟩
  ·exact .inl ⟨h1,h2,by rw [h3];simp [homeQ],h4⟩
 | k::ks,d,_=>by
  simp only [bringGo]
  rcases live_write (d:=d) (2+l.n+k) ((l.H k).getD []) with ⟨h1,h2,h3,h4⟩|⟨h1,h2,h3,h4⟩
  ·rw [if_pos (by rw [h1];decide)]
   exact .inr ⟨h1,h2,h3,0,by rw [h4];simp [homeQ]⟩
  ·rw [if_neg (by rw [h1];decide)]
   rcases bringGo_live l ks (d.write (2+l.n+k) ((l.H k).getD [])) h2 with ⟨e1,e2,e3,e4⟩|⟨e1,e2,e3,m,e4⟩
   ·exact .inl ⟨e1,e2,by rw [e3,h3,h4];simp [homeQ],e4⟩
   ·exact .inr ⟨e1,e2,e3.trans h3,m+1,by rw [e4,h4];simp [homeQ]⟩
theorem save_live (d:Dsk) (a ep:Nat) (x:Hd):
  ((d.save a ep x).2=0∧(d.save a ep x).1.off=false∧(d.save a ep x).1.L=laid (d.Q++ [(a+x.gen %2,sealB (headPc ep x))]) d.L∧(d.save a ep x).1.Q= [])∨
  ((d.save a ep x).2=7∧(d.save a ep x).1.off=true∧(d.save a ep x).1.L=d.L∧((d.save a ep x).1.Q=d.Q∨(d.save a ep x).1.Q=d.Q++ [(a+x.gen %2,sealB (headPc ep x))])):=by
 unfold Dsk.save
 by_cases hs:d.step.off=true
 ·rw [if_pos hs]
  exact .inr ⟨rfl,hs,step_L d, .inl (step_Q d)⟩
 ·rw [if_neg hs]
  rcases live_write (d:=d) (a+x.gen %2) (sealB (headPc ep x)) with ⟨h1,h2,h3,h4⟩|⟨h1,h2,h3,h4⟩
  ·exfalso
   unfold Dsk.dead at h1
   rw [if_neg hs] at h1
   cases h1
  ·rcases live_flush (d:=d.write (a+x.gen %2) (sealB (headPc ep x))) with ⟨e1,e2,e3,e4⟩|⟨e1,e2,e3,e4⟩
   ·exact .inr ⟨e1,e2,e3.trans h3, .inr (by rw [e4,h4])⟩
   ·exact .inl ⟨e1,e2,by rw [e3,h3,h4],e4⟩
def homesOf (n:Nat) (d:Dsk) (H:Nat→Option (List Nat)):List (List Nat):=(List.range (d.L.length-2-n)).map fun k=>(H k).getD (d.get (2+n+k))
theorem homesOf_same {n:Nat} {d d':Dsk} {H:Nat→Option (List Nat)} (hL:d'.L.length=d.L.length) (h: ∀k,k<d.L.length-2-n→H k=none→d'.get (2+n+k)=d.get (2+n+k)):homesOf n d' H=homesOf n d H:=by
 unfold homesOf
 rw [hL]
 refine List.map_congr_left fun k hk=> ?_
 cases hH:H k with
 | some b=>rfl
 | none=>exact h k (List.mem_range.1 hk) hH
def Outs (n i:Nat) (d:Dsk) (S:List (List (List Nat))):Prop:= ∀keep torn, ∃gen tail F D,Says (d.crash keep torn) n gen tail F D∧gen≤i∧endCt tail D≤100*i∧F≤16777215∧
 (∀j,j<2+n→SectA (256*i+255) ((d.crash keep torn).get j))∧homesOf n (d.crash keep torn) (applyH (fun _=>none) D)∈S
def steps (n:Nat) (d:Dsk) (D P:List Rc):List (List (List Nat)):=(List.range (P.length+1)).map fun j=>homesOf n d (applyH (fun _=>none) (D++P.take j))
theorem steps_mem {n:Nat} {d:Dsk} {D P:List Rc} {j:Nat} (hj:j≤P.length):homesOf n d (applyH (fun _=>none) (D++P.take j))∈steps n d D P:=List.mem_map.2 ⟨j,List.mem_range.2 (by omega),rfl⟩
theorem steps_snoc {n:Nat} {d:Dsk} {D P:List Rc} (r:Rc):steps n d D (P++ [r])=steps n d D P++ [homesOf n d (applyH (fun _=>none) (D++(P++ [r])))]:=by
 unfold steps
 rw [List.length_append,List.length_singleton,List.range_succ,List.map_append]
 congr 1
 ·refine List.map_congr_left fun j hj=> ?_
  have:=List.mem_range.1 hj
  rw [List.take_append_of_le_length (by omega)]
 ·rw [List.map_singleton,List.take_of_length_le (by simp)]
structure KLive (n i:Nat) (l:Lg) (d:Dsk) (S:List (List (List Nat))):Prop where
 ex: ∃F D P,Rg d l F D P∧F≤16777215∧S=steps n d.last D P
 kp:Keep d.last l
 on:d.off=false
 err:l.err=0
 rn:l.n=n
 ep:l.epoch≤256*i+1
 nx:l.next≤100*i
 gen:l.gen≤i
structure KDead (n i:Nat) (l:Lg) (d:Dsk) (S:List (List (List Nat))):Prop where
 outs:Outs n i d S
 off:d.off=true
 err:l.err=7
 rn:l.n=n
 fit:l.fit d
 nx:l.next≤100*i
 dok:d.ok
theorem live_outs {n i:Nat} {d:Dsk} {l:Lg} {F:Nat} {D P:List Rc} {m:Nat} (hb:Base d.last l F D) (hk:Keep d.last l) (hfit:l.fit d) (hd:d.ok) (hg:Goods (l.homes d) l.epoch (endCt l.tail D) P) (hroom:endCt (endCt l.tail D) P≤l.tail+l.n)
  (hQ:d.Q=ringQ l.n ((allPcs (endCt l.tail D) P).take m)) (hn:l.n=n) (hF:F≤16777215) (hgen:l.gen≤i) (hnx:endCt (endCt l.tail D) P≤100*i) (hep:l.epoch≤256*i+1):Outs n i d (steps n d.last D P):=by
 intro keep torn
 subst hn
 obtain ⟨⟨j,hj,hs⟩,hse,hho⟩:=crash_ring (keep:=keep) (torn:=torn) hb hk hfit hd hg hroom hQ
 refine ⟨l.gen,l.tail,F,_,hs,hgen,?_,hF,fun k hk=>(hse k hk).mono (by omega),?_⟩
 ·rw [endCt_append]
  have h1:endCt (endCt l.tail D) (P.take j)≤endCt (endCt l.tail D) P:=by
   conv=>rhs;rw [←List.take_append_drop j P]
   rw [endCt_append]
   have:=endCt_le (P.drop j) (endCt (endCt l.tail D) (P.take j))
   omega
  omega
 ·rw [homesOf_same (d:=d.last) (crash_L d keep torn) fun k _ _=>hho k]
  exact steps_mem hj
theorem Base.congr {d d':Dsk} {l l':Lg} {F:Nat} {D:List Rc} (hb:Base d l F D) (ht:l.tail≤endCt l.tail D) (hL:d'.L.length=d.L.length) (hn2:2≤l.n) (hg: ∀i,i<2+l.n→d'.get i=d.get i) (h1:l'.n=l.n) (h2:l'.epoch=l.epoch) (h3:l'.gen=l.gen) (h4:l'.tail=l.tail):Base d' l' F D:=by
 have hlt: ∀c,2+c %l.n<2+l.n:=fun c=>by have:=Nat.mod_lt c (show 0<l.n by omega);omega
 have hh:l'.homes d'=l.homes d:=by unfold Lg.homes;rw [hL,h1]
 refine ⟨by rw [h3,h4];exact hb.hd.same fun i hi=>hg i (by omega),by rw [hh,h4];exact hb.rise,fun q hq=> ?_,by rw [h4,h1];exact hb.room,by rw [h2];exact hb.fle,?_,fun c q c1 c2 hq=> ?_⟩
 ·rw [h4] at hq
  rw [h1,hg _ (hlt _)]
  exact hb.slots q hq
 ·rw [h1,h2,h3,h4]
  exact hb.stop.imp id fun hs=>stepB_same' hL ht (fun c _ _=>pieceB_same (hg _ (hlt _))) hs
 ·rw [h4] at c1 c2
  rw [h1] at c2 hq
  rw [h2]
  exact hb.old c q c1 c2 ((pieceB_same (hg _ (hlt _))).symm.trans hq)
theorem Keep.congr {d d':Dsk} {l l':Lg} (h:Keep d l) (hg: ∀i,i<2+l.n→d'.get i=d.get i) (h0: ∀i,i<2→d'.get i=d.get i) (h1:l'.n=l.n) (h2:l'.epoch=l.epoch) (h3:l'.gen=l.gen):Keep d' l':=
 ⟨fun i hi=>by rw [h1] at hi;rw [hg i hi,h2];exact h.sect i hi,fun i hi p hp hpe=>by rw [h0 i hi] at hp;rw [h2] at hpe;rw [h3];exact h.hdct i hi p hp hpe,by rw [h2];exact h.ep⟩
theorem homesB_of (l:Lg) (d:Dsk):homesB l d=homesOf l.n d l.H:=by
 unfold homesB homesOf
 exact List.map_congr_left fun k _=>home_getD l d k
theorem Rg.homes_eq {d:Dsk} {l:Lg} {F:Nat} {D P:List Rc} (h:Rg d l F D P):homesB l d=homesOf l.n d.last (applyH (fun _=>none) (D++P)):=by
 rw [homesB_of,h.H]
 exact homesOf_same (d:=d.last) rfl fun k _ _=>h.rest fun q _=>by have:=h.fit.n2;have:=Nat.mod_lt q.ct (show 0<l.n by omega);omega
theorem steps_last {n:Nat} {d:Dsk} {D P:List Rc}: ∃S0,steps n d D P=S0++ [homesOf n d (applyH (fun _=>none) (D++P))]:=by
 unfold steps
 rw [List.range_succ,List.map_append,List.map_singleton,List.take_length]
 exact ⟨_,rfl⟩
theorem KLive.last {n i:Nat} {l:Lg} {d:Dsk} {S:List (List (List Nat))} (h:KLive n i l d S): ∃S0,S=S0++ [homesB l d]:=by
 obtain ⟨F,D,P,hr,hF,rfl⟩:=h.ex
 obtain ⟨S0,e⟩:=steps_last (n:=n) (d:=d.last) (D:=D) (P:=P)
 exact ⟨S0,by rw [e,hr.homes_eq,h.rn]⟩
theorem KLive.mono {n i j:Nat} {l:Lg} {d:Dsk} {S:List (List (List Nat))} (h:KLive n i l d S) (hij:i≤j):KLive n j l d S:=
 ⟨h.ex,h.kp,h.on,h.err,h.rn,by have:=h.ep;omega,by have:=h.nx;omega,by have:=h.gen;omega⟩
theorem KDead.mono {n i j:Nat} {l:Lg} {d:Dsk} {S:List (List (List Nat))} (h:KDead n i l d S) (hij:i≤j):KDead n j l d S:=
 ⟨fun keep torn=>by
  obtain ⟨gen,tail,F,D,h1,h2,h3,h4,h5,h6⟩:=h.outs keep torn
  exact ⟨gen,tail,F,D,h1,by omega,by omega,h4,fun k hk=>(h5 k hk).mono (by omega),h6⟩,h.off,h.err,h.rn,h.fit,by have:=h.nx;omega,h.dok⟩
theorem klive_write {n i:Nat} {l:Lg} {d:Dsk} {S:List (List (List Nat))} (h:KLive n i l d S) (hi:i≤1000) {ps:List Pt} (hb: ∀p∈ps, ∀x∈p.2,x<256) (hok:(l.write d ps).2.1.ok):
  ((l.write d ps).2.2=0∧KLive n (i+1) (l.write d ps).1 (l.write d ps).2.1 (S++ [homesB (l.write d ps).1 (l.write d ps).2.1]))∨
  ((l.write d ps).2.2=7∧KDead n (i+1) (l.write d ps).1 (l.write d ps).2.1 (S++ [overB (homesB l d) ps]))∨
  ((l.write d ps).2.2≠0∧(l.write d ps).2.2≠7∧(l.write d ps).1=l∧(l.write d ps).2.1=d):=by
 have h':=h
 obtain ⟨⟨F,D,P,hr,hF,hS⟩,hkp,hon,herr,hrn,hep,hnx,hgen⟩:=h
 cases ht:transB ps (l.homes d) with
 | false=>
  rw [write_arg herr ht]
  exact .inr (.inr ⟨by simp,by simp,rfl,rfl⟩)
 | true=>
  have hc:=cut_ok (ep:=l.epoch) (ct:=l.next) ht (by omega) (by omega)
  by_cases hf:(cutL l.epoch l.next (recB ps)).length≤l.free
  ·have hlen:(cutL l.epoch l.next (recB ps)).length=(⟨l.epoch,ps⟩:Rc).n:=by rw [cutL_len];rfl
   have hsm:(cutL l.epoch l.next (recB ps)).length≤100:=by
    have:=recN ht
    rw [cutL_len]
    omega
   have hn:=hr.next
   have hfr:l.free=l.n-(l.next-l.tail):=rfl
   have hl1:=hr.fit.tail
   have hl2:=hr.fit.next
   have hgs:Goods (l.homes d) l.epoch (endCt l.tail D) (P++ [⟨l.epoch,ps⟩]):=(goods_append P _ _).2 ⟨hr.gs,rfl,⟨ht,hb,by rw [←hn.2.1];exact hc⟩,trivial⟩
   have hend:endCt (endCt l.tail D) (P++ [⟨l.epoch,ps⟩])=l.next+(cutL l.epoch l.next (recB ps)).length:=by
    rw [endCt_append, ←hn.2.1,hlen]
    rfl
   have hX:homesOf n d.last (applyH (fun _=>none) (D++(P++ [⟨l.epoch,ps⟩])))=overB (homesB l d) ps:=by
    rw [hr.homes_eq, ←List.append_assoc,applyH_append,hrn]
    unfold homesOf
    rw [over_take]
    ·rfl
    ·intro p hp
     have h1:=((transB_iff ps _).1 ht).2.2.1 p hp
     have h2:l.homes d=d.last.L.length-2-n:=by unfold Lg.homes;rw [hrn];rfl
     rw [h2] at h1
     exact ⟨h1.1,h1.2.1⟩
   have hpl:=putPcs_live l.n (cutL l.epoch l.next (recB ps)) d hon
   have hw:l.write d ps=if (putPcs l.n (cutL l.epoch l.next (recB ps)) d).2≠0 then ({l with err:=(putPcs l.n (cutL l.epoch l.next (recB ps)) d).2},(putPcs l.n (cutL l.epoch l.next (recB ps)) d).1,(putPcs l.n (cutL l.epoch l.next (recB ps)) d).2)
     else ({l with next:=l.next+(cutL l.epoch l.next (recB ps)).length,H:=takeH l.H ps},(putPcs l.n (cutL l.epoch l.next (recB ps)) d).1,0):=by
    unfold Lg.write
    rw [if_neg (by omega),if_neg (by rw [ht];decide),hc]
    simp only
    rw [if_neg (by omega)]
   rw [hw] at hok ⊢
   generalize putPcs l.n (cutL l.epoch l.next (recB ps)) d=r at*
   obtain ⟨d',c⟩:=r
   simp only at hpl
   rcases hpl with ⟨rfl,p2,p3,p4⟩|⟨rfl,p2,p3,m,p4⟩
   ·rw [if_neg (by simp)] at hok ⊢
    simp only at hok ⊢
    have hr':=hr.write ht hb hc hf p3 p4 hok
    have hlg: ∀i,d'.last.get i=d.last.get i:=fun i=>by rw [last_get,last_get,p3]
    refine .inl ⟨trivial,⟨F,D,_,hr',hF,?_⟩,hkp.congr (fun i _=>hlg i) (fun i _=>hlg i) rfl rfl rfl,p2,herr,hrn,by simp only;omega,by simp only;omega,by simp only;omega⟩
    have e1: ∀H,homesOf n d'.last H=homesOf n d.last H:=fun H=>homesOf_same (by show d'.L.length=d.L.length;rw [p3]) fun k _ _=>hlg _
    rw [hr'.homes_eq,hS,steps_snoc]
    have e2:steps n d'.last D P=steps n d.last D P:=by
     unfold steps
     exact List.map_congr_left fun j _=>e1 _
    rw [e2]
    show _=_
    rw [show ({l with next:=l.next+(cutL l.epoch l.next (recB ps)).length,H:=takeH l.H ps}:Lg).n=n from hrn]
   ·rw [if_pos (by simp)] at hok ⊢
    simp only at hok ⊢
    have hL:d'.L.length=d.L.length:=by rw [p3]
    have hlg: ∀i,d'.last.get i=d.last.get i:=fun i=>by rw [last_get,last_get,p3]
    have hfit:=hr.fit.disk hL
    have hhd:l.homes d'=l.homes d:=by unfold Lg.homes;rw [hL]
    have hb':Base d'.last l F D:=hr.base.congr (by omega) hL hr.fit.n2 (fun i _=>hlg i) rfl rfl rfl rfl
    have hk':Keep d'.last l:=hkp.congr (fun i _=>hlg i) (fun i _=>hlg i) rfl rfl rfl
    have ho:=live_outs (n:=n) (i:=i+1) (d:=d') (l:=l) (F:=F) (D:=D) (P:=P++ [⟨l.epoch,ps⟩]) (m:=(allPcs (endCt l.tail D) P).length+m) hb' hk' hfit hok (by rw [hhd];exact hgs) (by omega) (by
     rw [p4,hr.q,allPcs_append,List.take_append,List.take_of_length_le (l:=allPcs (endCt l.tail D) P) (by omega),Nat.add_sub_cancel_left, ←hn.2.1]
     unfold ringQ
     rw [List.map_append]
     show _=_++List.map _ (List.take m ((⟨l.epoch,ps⟩:Rc).pcs l.next++ []))
     rw [List.append_nil]
     rfl) hrn hF (by omega) (by omega) (by omega)
    refine .inr (.inl ⟨trivial,?_,p2,rfl,hrn,⟨hfit.n2,hfit.nd,hfit.epoch,hfit.gen,hfit.tail,hfit.next,by simp only;decide,hfit.H⟩,by simp only;omega,hok⟩)
    rw [steps_snoc] at ho
    have e1: ∀H,homesOf n d'.last H=homesOf n d.last H:=fun H=>homesOf_same hL fun k _ _=>hlg _
    have e2:steps n d'.last D P=steps n d.last D P:=by
     unfold steps
     exact List.map_congr_left fun j _=>e1 _
    rw [e2,e1,hX, ←hS] at ho
    exact ho
  ·rw [write_full herr ht hc (by omega)]
   exact .inr (.inr ⟨by simp,by simp,rfl,rfl⟩)
theorem Keep.flush {d d':Dsk} {l l':Lg} {F:Nat} {D P:List Rc} (h:Rg d l F D P) (hk:Keep d.last l) (hL:d'.L=laid d.Q d.L) (h1:l'.n=l.n) (h2:l'.epoch=l.epoch) (h3:l'.gen=l.gen):Keep d'.last l':=by
 have hnd:=h.fit.nd
 have hg: ∀i,i<d.L.length→d'.last.get i=d.get i:=fun i hi=>by
  rw [last_get,hL,laid_get _ _ _ hi]
  rfl
 have hpb:=pcs_byte P _ h.gs
 refine ⟨fun i hi=> ?_,fun i hi p hp hpe=> ?_,by rw [h2];exact hk.ep⟩
 ·rw [h1] at hi
  rw [hg i (by omega),h2,get_last]
  rcases seen_or d.Q i (d.last.get i) with e|⟨x,hx,_,e⟩
  ·rw [e]
   exact hk.sect i hi
  ·rw [e]
   rw [h.q] at hx
   obtain ⟨q,hq,rfl⟩:=List.mem_map.1 hx
   obtain ⟨hqo,hqb,hqe⟩:=hpb q hq
   have:=seal_sect hqo hqb
   rw [hqe] at this
   exact this
 ·rw [hg i (by omega),h.rest (fun q _=>by omega)] at hp
  rw [h3]
  exact hk.hdct i hi p hp (by rw [←h2];exact hpe)
theorem klive_flush {n i:Nat} {l:Lg} {d:Dsk} {S:List (List (List Nat))} (h:KLive n i l d S) (hd:d.flush.ok):
  (d.dead=0∧KLive n i l d.flush [homesB l d]∧homesB l d.flush=homesB l d∧d.flush.Q= [])∨(d.dead=7∧KDead n i {l with err:=7} d.flush S):=by
 obtain ⟨F,D,P,hr,hF,hS⟩:=h.ex
 rcases live_flush (d:=d) with ⟨h1,h2,h3,h4⟩|⟨h1,h2,h3,h4⟩
 ·have hL:d.flush.L.length=d.L.length:=by rw [h3]
  have hlg: ∀j,d.flush.last.get j=d.last.get j:=fun j=>by rw [last_get,last_get,h3]
  have hn:=hr.next
  have hf1:=hr.fit.next
  have hf2:=h.nx
  have hfit:=hr.fit.disk hL
  have hhd:l.homes d.flush=l.homes d:=by unfold Lg.homes;rw [hL]
  have ho:=live_outs (n:=n) (i:=i) (d:=d.flush) (l:=l) (F:=F) (D:=D) (P:=P) (m:=(allPcs (endCt l.tail D) P).length) (hr.base.congr (by omega) hL hr.fit.n2 (fun j _=>hlg j) rfl rfl rfl rfl) (h.kp.congr (fun j _=>hlg j) (fun j _=>hlg j) rfl rfl rfl) hfit hd (by rw [hhd];exact hr.gs) (by omega) (by rw [List.take_length,h4];exact hr.q) h.rn hF h.gen (by omega) h.ep
  refine .inr ⟨h1,?_,h2,rfl,h.rn,⟨hfit.n2,hfit.nd,hfit.epoch,hfit.gen,hfit.tail,hfit.next,by simp,hfit.H⟩,h.nx,hd⟩
  have e2:steps n d.flush.last D P=steps n d.last D P:=by
   unfold steps
   exact List.map_congr_left fun j _=>homesOf_same hL fun k _ _=>hlg _
  rw [e2, ←hS] at ho
  exact ho
 ·have hr':=hr.flush h3 h4 hd
  have hho:homesB l d.flush=homesB l d:=by
   rw [homesB_of,homesB_of]
   refine homesOf_same (flush_L d) fun k hk _=>flush_get h3 h4 (by omega)
  refine .inl ⟨h1,⟨⟨F,_,_,hr',hF,?_⟩,Keep.flush hr h.kp h3 rfl rfl rfl,h2,h.err,h.rn,h.ep,h.nx,h.gen⟩,hho,h4⟩
  rw [←hho,hr'.homes_eq,h.rn]
  rfl
theorem klive_sync {n i:Nat} {l:Lg} {d:Dsk} {S:List (List (List Nat))} (h:KLive n i l d S) (hok:(l.sync d).2.ok):
  ((l.sync d).1.err=0∧KLive n i (l.sync d).1 (l.sync d).2 [homesB l d]∧homesB (l.sync d).1 (l.sync d).2=homesB l d)∨((l.sync d).1.err=7∧KDead n i (l.sync d).1 (l.sync d).2 S):=by
 have hs:l.sync d=({l with err:=d.dead},d.flush):=by
  unfold Lg.sync
  rw [if_neg (by have:=h.err;omega)]
 rw [hs] at hok ⊢
 simp only at hok ⊢
 have he:=h.err
 obtain ⟨ln,le,lg,lt,lx,lH,lr⟩:=l
 simp only at he
 subst he
 rcases klive_flush h hok with ⟨h1,h2,h3, -⟩|⟨h1,h2⟩
 ·rw [h1]
  exact .inl ⟨rfl,h2,h3⟩
 ·rw [h1]
  exact .inr ⟨rfl,h2⟩
theorem kinit {n size:Nat} (h1:2≤n) (h2:n+3≤size) (h3:size≤4096):KLive n 0 (log0 n 1 0 0) (newD size) [homesB (log0 n 1 0 0) (newD size)]:=by
 have hok:=newD_ok (n:=size) (by omega) (by omega)
 have hL:(newD size).L.length=size:=by simp [newD]
 have hz: ∀i,i<2+n→SectA 0 ((newD size).get i):=fun i hi=>by
  rw [newd_get (by omega)]
  refine ⟨List.length_replicate,fun x hx=> ?_,?_,?_,?_⟩
  ·rw [List.eq_of_mem_replicate hx]
   decide
  all_goals decide
 have hr:Rg (newD size) (log0 n 1 0 0) 1 [] []:=by
  refine ⟨(log0_fit (by omega) (by omega) (by decide) (by decide)),hok,⟨.inr ⟨head_zero (by omega),rfl,rfl,rfl⟩,trivial,(fun q hq=>by cases hq),Nat.le_add_right _ _,Nat.le_refl _, .inl rfl,fun c q c1 c2 hq=> ?_⟩,rfl,trivial,rfl,rfl⟩
  have c2:c<0+n:=c2
  have hq:pieceB (newD size) n c=some q:=hq
  show q.ep<1
  have hm:=Nat.mod_lt c (show 0<n by omega)
  unfold pieceB at hq
  rw [newd_get (by omega),unseal_zero] at hq
  simp only at hq
  split at hq
  ·cases hq
   decide
  ·cases hq
 refine ⟨⟨1, [], [],hr,by decide,?_⟩,⟨fun i hi=>((hz i hi).next (Nat.lt_succ_self 0):Sect 1 ((newD size).get i)),fun i hi p hp hpe=> ?_,by show 1<65536;decide⟩,rfl,rfl,rfl,by show 1≤256*0+1;decide,Nat.zero_le _,Nat.zero_le _⟩
 ·rw [hr.homes_eq]
  rfl
 ·have hp:unsealB ((newD size).get i)=some p:=hp
  rw [newd_get (by omega),unseal_zero] at hp
  cases hp
  exact Nat.le_refl _
theorem KDead.sub {n i:Nat} {l:Lg} {d:Dsk} {S T:List (List (List Nat))} (h:KDead n i l d S) (hs: ∀x∈S,x∈T):KDead n i l d T:=
 ⟨fun keep torn=>by
  obtain ⟨gen,tail,F,D,h1,h2,h3,h4,h5,h6⟩:=h.outs keep torn
  exact ⟨gen,tail,F,D,h1,h2,h3,h4,h5,hs _ h6⟩,h.off,h.err,h.rn,h.fit,h.nx,h.dok⟩
theorem kcheck_bring {n i:Nat} {l:Lg} {d:Dsk} {F:Nat} {D:List Rc} (hr:Rg d l F D []) (hkp:Keep d.last l) (hQ:d.Q= []) (hF:F≤16777215) (hrn:l.n=n) (hep:l.epoch≤256*i+1) (hnx:l.next≤100*i) (hgen:l.gen≤i) {d':Dsk}
  (hL:d'.L=d.L) (hQ': ∃m,d'.Q=homeQ l ((l.keys d).take m)):Outs n i d' [homesB l d]:=by
 intro keep torn
 have hn2:=hr.fit.n2
 have hLl:d'.last.L.length=d.last.L.length:=by show d'.L.length=d.L.length;rw [hL]
 have hlg: ∀j,d'.last.get j=d.last.get j:=fun j=>by rw [last_get,last_get,hL]
 have hb:Base d'.last l F D:=hr.base.congr hr.next.2.2 hLl hn2 (fun j _=>hlg j) rfl rfl rfl rfl
 have hk:Keep d'.last l:=hkp.congr (fun j _=>hlg j) (fun j _=>hlg j) rfl rfl rfl
 obtain ⟨m,hm⟩:=hQ'
 obtain ⟨h1,h2,h3⟩:=crash_homes (keep:=keep) (torn:=torn) hb hk hn2 (fun x hx=>by
  rw [hm] at hx
  obtain ⟨k,hk,rfl⟩:=List.mem_map.1 hx
  obtain ⟨-,b,hb⟩:=mem_keys (List.mem_of_mem_take hk)
  exact ⟨k,b,rfl,hb⟩)
 have hnx':=hr.nx
 rw [List.append_nil] at hnx'
 have hH:=hr.H
 rw [List.append_nil] at hH
 subst hrn
 refine ⟨l.gen,l.tail,F,D,h1,hgen,by omega,hF,fun j hj=>(h2 j hj).mono (by omega),List.mem_singleton.2 ?_⟩
 rw [homesB_of,hH]
 refine homesOf_same (by rw [crash_L,hL]) fun k _ hk0=> ?_
 rw [h3 k (by rw [hH];exact hk0),hlg]
 rw [last_of_none hQ]
theorem klive_check {n i:Nat} {l:Lg} {d:Dsk} {S:List (List (List Nat))} (h:KLive n i l d S) (hi:i≤1000) (hok:(l.check d).2.1.ok):
  ((l.check d).2.2=0∧KLive n (i+1) (l.check d).1 (l.check d).2.1 [homesB l d]∧homesB (l.check d).1 (l.check d).2.1=homesB l d)∨((l.check d).2.2=7∧KDead n (i+1) (l.check d).1 (l.check d).2.1 S):=by
 have hdok:d.ok:=by obtain ⟨F,D,P,hr, -, -⟩:=h.ex;exact hr.dok
 obtain ⟨S0,hS0⟩:=h.last
 have hsub: ∀x∈ [homesB l d],x∈S:=fun x hx=>by rw [hS0];exact List.mem_append.2 (.inr hx)
 have hs:l.sync d=({l with err:=d.dead},d.flush):=by
  unfold Lg.sync
  rw [if_neg (by have:=h.err;omega)]
 have he:=h.err
 have hg:=h.gen
 have hnx:=h.nx
 rcases klive_flush h hdok.flush with ⟨h1,h2,h3,hQ1⟩|⟨h1,h2⟩
 ·obtain ⟨F,D,P,hr,hF,hS⟩:=h2.ex
  have hP:P= []:=by
   have hl:=congrArg List.length hS
   unfold steps at hl
   simp at hl
   exact hl
  subst hP
  have hse:({l with err:=d.dead}:Lg)=l:=by
   rw [h1]
   obtain ⟨ln,le,lg,lt,lx,lH,lr⟩:=l
   simp only at he
   subst he
   rfl
  rw [hse] at hs
  have hkp:=h2.kp
  have hon:=h2.on
  have hfl:=flush_L d
  rw [←h3] at hsub ⊢
  rw [last_of_none hQ1] at hkp
  generalize d.flush=d1 at*
  have hn2:=hr.fit.n2
  have hnd:=hr.fit.nd
  have hb1:=hr.base
  rw [last_of_none hQ1] at hb1
  have hnx1:l.next=endCt l.tail D:=by have:=hr.nx;rwa [List.append_nil] at this
  have hH:=hr.H
  rw [List.append_nil] at hH
  have hck:l.check d=if (l.bring d1).2≠0 then ({l with err:=(l.bring d1).2},(l.bring d1).1,(l.bring d1).2) else
    if ((l.bring d1).1.save 0 l.epoch ⟨l.gen+1,l.next,l.epoch⟩).2≠0 then
     ({l with err:=((l.bring d1).1.save 0 l.epoch ⟨l.gen+1,l.next,l.epoch⟩).2},((l.bring d1).1.save 0 l.epoch ⟨l.gen+1,l.next,l.epoch⟩).1,((l.bring d1).1.save 0 l.epoch ⟨l.gen+1,l.next,l.epoch⟩).2)
    else ({l with gen:=l.gen+1,tail:=l.next,H:=fun _=>none},((l.bring d1).1.save 0 l.epoch ⟨l.gen+1,l.next,l.epoch⟩).1,0):=by
   unfold Lg.check
   rw [hs]
   simp only
   rw [if_neg (by omega),if_neg (by omega)]
  rw [hck] at hok ⊢
  have hks: ∀k∈l.keys d1, ∃b,l.H k=some b:=fun k hk=>(mem_keys hk).2
  have hkl:=h2.kp
  have hbr:=bringGo_live l (l.keys d1) d1 hon
  change ((l.bring d1).2=0∧_)∨_ at hbr
  rcases hbr with ⟨b1,b2,b3,b4⟩|⟨b1,b2,b3,m,b4⟩
  ·have b3:(l.bring d1).1.L=laid (homeQ l (l.keys d1)) d1.L:=by
    have:(l.bring d1).1.L=laid (d1.Q++homeQ l (l.keys d1)) d1.L:=b3
    rw [this,hQ1,List.nil_append]
   have b2:(l.bring d1).1.off=false:=b2
   have b4:(l.bring d1).1.Q= []:=b4
   rw [if_neg (by omega)] at hok ⊢
   generalize (l.bring d1).1=d2 at*
   have hl2:d2.L.length=d1.L.length:=by rw [b3,laid_len]
   -- what is seen behind the bringing
   have hg2: ∀j,j<d1.L.length→d2.get j=seenQ (homeQ l (l.keys d1)) j (d1.get j):=fun j hj=>by
    have e1:d2.get j=d2.L.getD j []:=by unfold Dsk.get;rw [b4];rfl
    have e2:d1.get j=d1.L.getD j []:=by unfold Dsk.get;rw [hQ1];rfl
    rw [e1,b3,laid_get _ _ _ hj, ←e2]
   have hlow: ∀j,j<2+l.n→d2.get j=d1.get j:=fun j hj=>by rw [hg2 j (by omega),homeQ_low _ hj]
   have hhome: ∀k,k<l.homes d1→d2.get (2+l.n+k)=(l.H k).getD (d1.get (2+l.n+k)):=fun k hk=>by
    have hk':2+l.n+k<d1.L.length:=by unfold Lg.homes at hk;omega
    rw [hg2 _ hk',keys_seen _ hks]
    by_cases hm:k∈l.keys d1
    ·rw [if_pos hm]
     obtain ⟨b,hb⟩:=hks k hm
     rw [hb]
     rfl
    ·rw [if_neg hm]
     cases hHk:l.H k with
     | none=>rfl
     | some b=>exact absurd ((mem_keys' hk).2 ⟨b,hHk⟩) hm
   have hb2:Base d2 l F D:=hb1.congr hr.next.2.2 hl2 hn2 hlow rfl rfl rfl rfl
   have hk2:Keep d2 l:=hkp.congr hlow (fun j hj=>hlow j (by omega)) rfl rfl rfl
   -- homes brought:the same,with or without the records
   have hho: ∀(d':Dsk) (H:Nat→Option (List Nat)),d'.L.length=d2.L.length→(∀k,k<l.homes d1→d'.get (2+l.n+k)=d2.get (2+l.n+k))→(H=l.H∨H=fun _=>none)→homesOf l.n d' H=homesB l d1:=fun d' H hL hgk hHH=>by
    rw [homesB_of]
    unfold homesOf
    rw [hL,hl2]
    refine List.map_congr_left fun k hk=> ?_
    have hk':k<l.homes d1:=List.mem_range.1 hk
    rw [hgk k hk',hhome k hk']
    rcases hHH with rfl|rfl
    ·cases l.H k<;>rfl
    ·rfl
   have hsv:=save_live d2 0 l.epoch ⟨l.gen+1,l.next,l.epoch⟩
   simp only [Nat.zero_add] at hsv
   rw [b4,List.nil_append] at hsv
   generalize d2.save 0 l.epoch ⟨l.gen+1,l.next,l.epoch⟩=r at*
   obtain ⟨d3,c⟩:=r
   simp only at hsv
   rcases hsv with ⟨rfl,s2,s3,s4⟩|⟨rfl,s2,s3,s4⟩
   ·-- all went well
    rw [if_neg (by simp)] at hok ⊢
    simp only at hok ⊢
    have hl3:d3.L.length=d2.L.length:=by rw [s3,laid_len]
    have hg3: ∀j,j<d2.L.length→d3.get j=if (l.gen+1) %2=j then sealB (headPc l.epoch ⟨l.gen+1,l.next,l.epoch⟩) else d2.get j:=fun j hj=>by
     have e1:d3.get j=d3.L.getD j []:=by unfold Dsk.get;rw [s4];rfl
     have e2:d2.get j=d2.L.getD j []:=by unfold Dsk.get;rw [b4];rfl
     rw [e1,s3,laid_get _ _ _ hj, ←e2]
     rfl
    have hgl:=Nat.mod_lt (l.gen+1) (show 0<2 by decide)
    have hbf:Base d3 {l with gen:=l.gen+1,tail:=l.next,H:=fun _=>none,err:=l.err} l.epoch []:=by
     refine hb1.freed hr.fit hr.dok hnx1 (by omega) (by omega) (by omega) ?_ ?_ _ _
     ·rw [hg3 _ (by omega),if_pos rfl]
     ·intro j hj hne
      rw [hg3 j (by omega),if_neg (fun e=>hne e.symm),hlow j hj]
    have hf1:=hr.fit.disk (d':=d3) (by omega)
    have hr3:Rg d3 {l with gen:=l.gen+1,tail:=l.next,H:=fun _=>none} l.epoch [] []:=by
     refine ⟨⟨hf1.n2,hf1.nd,hf1.epoch,by simp only;omega,Nat.le_refl _,Nat.le_add_right _ _,hf1.err,fun k b hk=>by cases hk⟩,hok,?_,s4,trivial,rfl,rfl⟩
     rw [last_of_none s4]
     exact hbf
    have hhm:homesB {l with gen:=l.gen+1,tail:=l.next,H:=fun _=>none} d3=homesB l d1:=by
     rw [homesB_of]
     refine hho d3 _ hl3 (fun k hk=> ?_) (.inr rfl)
     have:2+l.n+k<d1.L.length:=by unfold Lg.homes at hk;omega
     rw [hg3 _ (by omega),if_neg (by omega)]
    refine .inl ⟨trivial,⟨⟨l.epoch, [], [],hr3,hr.fit.epoch,?_⟩,?_,s2,he,h.rn,by have:=h.ep;simp only;omega,by simp only;omega,by simp only;omega⟩,hhm⟩
    ·rw [←hhm,hr3.homes_eq]
     show _= [_]
     rw [show ({l with gen:=l.gen+1,tail:=l.next,H:=fun _=>none}:Lg).n=n from h.rn]
     rfl
    ·rw [last_of_none s4]
     have hhok:(headPc l.epoch ⟨l.gen+1,l.next,l.epoch⟩).ok:=headPc_ok hr.fit.epoch (by simp only;omega)
     refine ⟨fun j hj=> ?_,fun j hj p hp hpe=> ?_,hk2.ep⟩
     ·have hj:j<2+l.n:=hj
      show Sect l.epoch _
      rw [hg3 j (by omega)]
      split
      ·exact seal_sect hhok (pack_lt _)
      ·exact hk2.sect j hj
     ·show p.ct≤l.gen+1
      have hpe:p.ep=l.epoch:=hpe
      rw [hg3 j (by omega)] at hp
      split at hp
      ·rw [unseal_seal hhok] at hp
       cases hp
       exact Nat.le_refl _
      ·have:=hk2.hdct j hj p hp hpe
       omega
   ·-- the power goes off at the head
    rw [if_pos (by simp)] at hok ⊢
    simp only at hok ⊢
    have hl3:d3.L.length=d2.L.length:=by rw [s3]
    have hlg: ∀j,d3.last.get j=d2.get j:=fun j=>by
     have e2:d2.get j=d2.L.getD j []:=by unfold Dsk.get;rw [b4];rfl
     rw [last_get,s3,e2]
    have hb3:Base d3.last l F D:=hb2.congr hr.next.2.2 hl3 hn2 (fun j _=>hlg j) rfl rfl rfl rfl
    have hk3:Keep d3.last l:=hk2.congr (fun j _=>hlg j) (fun j _=>hlg j) rfl rfl rfl
    have hf3:=hr.fit.disk (d':=d3) (by omega)
    have hep:=h.ep
    have hrn:=h.rn
    have ho:Outs n (i+1) d3 [homesB l d1]:=by
     intro keep torn
     subst hrn
     rcases s4 with s4|s4
     ·obtain ⟨c1,c2,c3⟩:=crash_homes (keep:=keep) (torn:=torn) hb3 hk3 hn2 (fun x hx=>by rw [s4] at hx;cases hx)
      refine ⟨l.gen,l.tail,F,D,c1,by omega,by omega,hF,fun j hj=>(c2 j hj).mono (by omega),List.mem_singleton.2 ?_⟩
      refine hho _ _ (by rw [crash_L,hl3]) (fun k hk=> ?_) (.inl hH.symm)
      rw [crash_get,s4]
      exact hlg _
     ·obtain ⟨c1,c2,c3⟩:=crash_head (keep:=keep) (torn:=torn) hb3 hk3 hf3 hok hnx1 (by omega) (by omega) s4
      rcases c1 with c1|c1
      ·refine ⟨l.gen,l.tail,F,D,c1,by omega,by omega,hF,fun j hj=>(c2 j hj).mono (by omega),List.mem_singleton.2 ?_⟩
       refine hho _ _ (by rw [crash_L,hl3]) (fun k hk=> ?_) (.inl hH.symm)
       rw [c3 _ (by omega)]
       exact hlg _
      ·refine ⟨l.gen+1,l.next,l.epoch, [],c1,by omega,by show l.next≤_;omega,hr.fit.epoch,fun j hj=>(c2 j hj).mono (by omega),List.mem_singleton.2 ?_⟩
       refine hho _ _ (by rw [crash_L,hl3]) (fun k hk=> ?_) (.inr rfl)
       rw [c3 _ (by omega)]
       exact hlg _
    exact .inr ⟨trivial,KDead.sub ⟨ho,s2,rfl,hrn,⟨hf3.n2,hf3.nd,hf3.epoch,hf3.gen,hf3.tail,hf3.next,by simp,hf3.H⟩,by simp only;omega,hok⟩ hsub⟩
  ·have b3:(l.bring d1).1.L=d1.L:=b3
   have b2:(l.bring d1).1.off=true:=b2
   have b4:(l.bring d1).1.Q=homeQ l ((l.keys d1).take m):=by
    have:(l.bring d1).1.Q=d1.Q++homeQ l ((l.keys d1).take m):=b4
    rw [this,hQ1,List.nil_append]
   have b1:(l.bring d1).2=7:=b1
   rw [if_pos (by rw [b1];decide)] at hok ⊢
   rw [b1]
   simp only at hok ⊢
   generalize (l.bring d1).1=d2 at*
   have hf2:=hr.fit.disk (d':=d2) (by rw [b3])
   have ho:=kcheck_bring (n:=n) (i:=i+1) (d':=d2) hr hkl hQ1 hF h.rn (by have:=h.ep;omega) (by omega) (by omega) b3 ⟨m,b4⟩
   exact .inr ⟨trivial,KDead.sub ⟨ho,b2,rfl,h.rn,⟨hf2.n2,hf2.nd,hf2.epoch,hf2.gen,hf2.tail,hf2.next,by simp,hf2.H⟩,by simp only;omega,hok⟩ hsub⟩
 ·have hck:l.check d=({l with err:=7},d.flush,7):=by
   unfold Lg.check
   rw [hs]
   simp only
   rw [h1,if_pos (by decide)]
  rw [hck]
  exact .inr ⟨rfl,h2.mono (by omega)⟩
theorem kwrite_Q (d:Dsk) (i:Nat) (b:List Nat):(d.write i b).Q.length≤d.Q.length+1:=by
 rcases live_write (d:=d) i b with ⟨-, -, -,h⟩|⟨-, -, -,h⟩
 ·rw [h];omega
 ·rw [h,List.length_append,List.length_singleton];exact Nat.le_refl _
theorem flush_Q (d:Dsk):d.flush.Q.length≤d.Q.length:=by
 rcases live_flush (d:=d) with ⟨-, -, -,h⟩|⟨-, -, -,h⟩
 ·rw [h];exact Nat.le_refl _
 ·rw [h];exact Nat.zero_le _
theorem putPcs_Q (n:Nat): ∀(ps:List Pc) (d:Dsk),(putPcs n ps d).1.Q.length≤d.Q.length+ps.length
 | [],d=>Nat.le_refl _
 | q::r,d=>by
  have h1:=kwrite_Q d (2+q.ct %n) (sealB q)
  have h2:=putPcs_Q n r (d.write (2+q.ct %n) (sealB q))
  rw [putPcs,List.length_cons]
  split
  ·simp only;omega
  ·omega
theorem kbringGo_Q (l:Lg): ∀(ks:List Nat) (d:Dsk),(bringGo l ks d).1.Q.length≤d.Q.length+ks.length
 | [],d=>flush_Q d
 | k::ks,d=>by
  have h1:=kwrite_Q d (2+l.n+k) ((l.H k).getD [])
  have h2:=kbringGo_Q l ks (d.write (2+l.n+k) ((l.H k).getD []))
  rw [bringGo,List.length_cons]
  split
  ·simp only;omega
  ·omega
theorem save_Q (d:Dsk) (a ep:Nat) (x:Hd):(d.save a ep x).1.Q.length≤d.Q.length+1:=by
 unfold Dsk.save
 split
 ·rw [step_Q];omega
 ·have h1:=kwrite_Q d (a+x.gen %2) (sealB (headPc ep x))
  have h2:=flush_Q (d.write (a+x.gen %2) (sealB (headPc ep x)))
  simp only
  omega
theorem lsync_Q {l:Lg} {d:Dsk}:(l.sync d).2.Q.length≤d.Q.length∧(l.sync d).2.L.length=d.L.length:=by
 unfold Lg.sync
 split
 ·exact ⟨Nat.le_refl _,rfl⟩
 ·exact ⟨flush_Q d,flush_L d⟩
theorem kbringGo_L (l:Lg): ∀(ks:List Nat) (d:Dsk),(bringGo l ks d).1.L.length=d.L.length
 | [],d=>flush_L d
 | k::ks,d=>by
  rw [bringGo]
  split
  ·show (d.write _ _).L.length=_
   rw [write_L]
  ·rw [kbringGo_L l ks,write_L]
theorem ksave_L (d:Dsk) (a ep:Nat) (x:Hd):(d.save a ep x).1.L.length=d.L.length:=by
 unfold Dsk.save
 split
 ·rw [step_L]
 ·show (Dsk.flush _).L.length=_
  rw [flush_L,write_L]
theorem lcheck_Q {l:Lg} {d:Dsk} (hd:d.L.length≤4096):(l.check d).2.1.Q.length≤d.Q.length+5000∧(l.check d).2.1.L.length=d.L.length:=by
 obtain ⟨s1,s2⟩:=lsync_Q (l:=l) (d:=d)
 unfold Lg.check
 generalize (l.sync d).2=d1 at*
 generalize (l.sync d).1=l1 at*
 have hk:(l.keys d1).length≤4096:=by
  unfold Lg.keys Lg.homes
  have h1:=List.length_filter_le (fun k=>(l.H k).isSome) (List.range (d1.L.length-2-l.n))
  rw [List.length_range] at h1
  omega
 have b1:(l.bring d1).1.Q.length≤d1.Q.length+(l.keys d1).length:=kbringGo_Q l _ d1
 have b2:(l.bring d1).1.L.length=d1.L.length:=kbringGo_L l _ d1
 have c1:=save_Q (l.bring d1).1 0 l.epoch ⟨l.gen+1,l.next,l.epoch⟩
 have c2:=ksave_L (l.bring d1).1 0 l.epoch ⟨l.gen+1,l.next,l.epoch⟩
 split
 ·exact ⟨by simp only;omega,s2⟩
 ·split
  ·exact ⟨by simp only;omega,s2⟩
  ·split
   ·exact ⟨by simp only;omega,b2.trans s2⟩
   ·split
    ·exact ⟨by simp only;omega,by simp only;omega⟩
    ·exact ⟨by simp only;omega,by simp only;omega⟩
def KInv (n i:Nat) (l:Lg) (d:Dsk) (S:List (List (List Nat))):Prop:=KLive n i l d S∨KDead n i l d S
theorem KInv.ok {n i:Nat} {l:Lg} {d:Dsk} {S:List (List (List Nat))} (h:KInv n i l d S) (hi:i≤1000):l.ok d:=by
 rcases h with h|h
 ·obtain ⟨F,D,P,hr, -, -⟩:=h.ex
  exact hr.fit.ok (by have:=h.nx;omega)
 ·exact h.fit.ok (by have:=h.nx;omega)
end Go.Proofs.YtjdbbnhnbdocbaaGreat
