import Derived.Test.YtldimgchpgoggaaGreatMgKpt19
import Derived.Test.YtldimgchpgoggaaGreatMgKpt1
namespace Go.Proofs.YtldimgchpgoggaaGreat
open Go.RowKit Go.Tn Go.Tn.Bt Go.Tn.Lp Go.Tn.Dk
def HeadIs (d:Dsk) (gen tail F:Nat):Prop:=(d.head 0=some ⟨gen,tail,F⟩∧d.get (gen %2)=sealB (headPc F ⟨gen,tail,F⟩))∨(d.head 0=none∧gen=0∧tail=0∧F=1)
theorem HeadIs.same {d d':Dsk} {gen tail F:Nat} (h:HeadIs d gen tail F) (hs: ∀i,i<2→d'.get i=d.get i):HeadIs d' gen tail F:=by
 have e:d'.head 0=d.head 0:=by
   unfold Dsk.head
   rw [hs 0 (by decide),hs (0+1) (by decide)]
 rcases h with ⟨h,h2⟩|h
 · exact .inl ⟨by rw [e];exact h,by rw [hs _ (Nat.mod_lt _ (by decide))];exact h2⟩
 · exact .inr ⟨by rw [e];exact h.1,h.2⟩
structure Base (d:Dsk) (l:Lg) (F:Nat) (D:List Rc):Prop where
 hd:HeadIs d l.gen l.tail F
 rise:Rise (l.homes d) l.tail F D
 slots: ∀q∈allPcs l.tail D,d.get (2+q.ct %l.n)=sealB q
 room:endCt l.tail D≤l.tail+l.n
 fle:lastF F D≤l.epoch
 stop:lastF F D=l.epoch∨stepB d (Lg.behind (log0 l.n l.epoch l.gen l.tail) D) (lastF F D)=none
 old: ∀c q,endCt l.tail D≤c→c<l.tail+l.n→pieceB d l.n c=some q→q.ep<l.epoch
structure Rg (d:Dsk) (l:Lg) (F:Nat) (D P:List Rc):Prop where
 fit:l.fit d
 dok:d.ok
 base:Base d.last l F D
 q:d.Q=ringQ l.n (allPcs (endCt l.tail D) P)
 gs:Goods (l.homes d) l.epoch (endCt l.tail D) P
 nx:l.next=endCt l.tail (D++P)
 H:l.H=applyH (fun _=>none) (D++P)
theorem homes_le {l:Lg} {d:Dsk} (h:d.ok):l.homes d≤4096:=by unfold Lg.homes;have:=h.hi;omega
theorem Rg.next {d:Dsk} {l:Lg} {F:Nat} {D P:List Rc} (h:Rg d l F D P):endCt l.tail D≤l.next∧l.next=endCt (endCt l.tail D) P∧l.tail≤endCt l.tail D:=by
 have h1:=h.nx
 rw [endCt_append] at h1
 have h2:=endCt_le P (endCt l.tail D)
 have h3:=endCt_le D l.tail
 exact ⟨by omega,h1,by omega⟩
theorem Rg.ctP {d:Dsk} {l:Lg} {F:Nat} {D P:List Rc} (h:Rg d l F D P): ∀q∈allPcs (endCt l.tail D) P,endCt l.tail D≤q.ct∧q.ct<l.next:=fun q hq=>by
 have:=allPcs_ct P _ q hq
 have h2:=h.next
 omega
theorem Rg.rest {d:Dsk} {l:Lg} {F:Nat} {D P:List Rc} (h:Rg d l F D P) {i:Nat} (hi: ∀q∈allPcs (endCt l.tail D) P,2+q.ct %l.n≠i):d.get i=d.last.get i:=by
 rw [get_last,h.q]
 refine seen_no _ _ _ fun x hx=> ?_
 obtain ⟨q,hq,rfl⟩:=List.mem_map.1 hx
 exact hi q hq
theorem Rg.restC {d:Dsk} {l:Lg} {F:Nat} {D P:List Rc} (h:Rg d l F D P) {c:Nat} (h1:l.tail≤c) (h2:c<l.tail+l.n) (h3:c<endCt l.tail D∨l.next≤c):d.get (2+c %l.n)=d.last.get (2+c %l.n):=by
 refine h.rest fun q hq e=> ?_
 have h4:=h.ctP q hq
 have h5:=h.next
 have h6:=h.fit.next
 have:=mod_inj (t:=l.tail) (by omega) (by omega) h1 h2 (show q.ct %l.n=c %l.n by omega)
 omega
theorem Rg.slot {d:Dsk} {l:Lg} {F:Nat} {D P:List Rc} (h:Rg d l F D P): ∀q∈allPcs l.tail (D++P),d.get (2+q.ct %l.n)=sealB q:=fun q hq=>by
 rw [allPcs_append] at hq
 have h5:=h.next
 have h6:=h.fit.next
 rcases List.mem_append.1 hq with hq|hq
 · have h4:=allPcs_ct D _ q hq
   rw [h.restC h4.1 (by omega) (.inl h4.2)]
   exact h.base.slots q hq
 · rw [get_last,h.q]
   obtain ⟨x,hx,h1,h2⟩:=seen_some (ringQ l.n (allPcs (endCt l.tail D) P)) (2+q.ct %l.n) (d.last.get (2+q.ct %l.n)) ⟨_,List.mem_map.2 ⟨q,hq,rfl⟩,rfl⟩
   obtain ⟨p,hp,rfl⟩:=List.mem_map.1 hx
   rw [h2]
   have hq2:=h.ctP q hq
   have hp2:=h.ctP p hp
   simp only at h1
   have:=mod_inj (t:=l.tail) (by omega) (by omega) (by omega) (by omega) (show p.ct %l.n=q.ct %l.n by omega)
   rw [allPcs_inj P _ p hp q hq this]
theorem Rg.rise {d:Dsk} {l:Lg} {F:Nat} {D P:List Rc} (h:Rg d l F D P):Rise (l.homes d) l.tail F (D++P):=
 (rise_append _ D P _ _).2 ⟨h.base.rise,rise_goods P _ _ h.base.fle h.gs⟩
theorem Rg.write {d d':Dsk} {l:Lg} {F:Nat} {D P:List Rc} (h:Rg d l F D P) {ps:List Pt} (ht:transB ps (l.homes d)=true) (hb: ∀p∈ps, ∀x∈p.2,x<256) {pcs:List Pc} (hc:cutB l.epoch l.next (recB ps)= .ok pcs) (hf:pcs.length≤l.free)
   (hL:d'.L=d.L) (hQ:d'.Q=d.Q++ringQ l.n pcs) (hok:d'.ok):Rg d' {l with next:=l.next+pcs.length,H:=takeH l.H ps} F D (P++ [⟨l.epoch,ps⟩]):=by
 have hpc:pcs=(⟨l.epoch,ps⟩:Rc).pcs l.next:=by
   unfold cutB at hc
   split at hc
   · cases hc
   · split at hc
     · cases hc
     · cases hc;rfl
 have hlen:pcs.length=(⟨l.epoch,ps⟩:Rc).n:=by rw [hpc,Rc.len]
 have hfr:l.free=l.n-(l.next-l.tail):=rfl
 have h1:=h.fit.tail
 have h2:=h.fit.next
 have hn:=h.next
 have hh:l.homes d'=l.homes d:=by unfold Lg.homes;rw [hL]
 have hlast:d'.last.L.length=d.last.L.length:=by show d'.L.length=d.L.length;rw [hL]
 have hlg: ∀i,d'.last.get i=d.last.get i:=fun i=>by rw [last_get,last_get,hL]
 have hfit':l.fit d':=h.fit.disk (by rw [hL])
 refine ⟨⟨hfit'.n2,hfit'.nd,hfit'.epoch,hfit'.gen,by simp only;omega,by simp only;omega,hfit'.err,takeH_ok hfit'.H (by rw [show ({l with next:=l.next+pcs.length,H:=takeH l.H ps}:Lg).homes d'=l.homes d from hh];exact ht) hb⟩,hok,?_,?_,?_,?_,?_⟩
 · have hb:=h.base
   refine ⟨hb.hd.same fun i _=>hlg i,?_,fun q hq=>(hlg _).trans (hb.slots q hq),hb.room,hb.fle,hb.stop.imp id fun hs=>stepB_same' hlast ?_ (fun c _ _=>pieceB_same (hlg _)) hs,fun c q c1 c2 hq=>hb.old c q c1 c2 ((pieceB_same (hlg _)).symm.trans hq)⟩
   · have:({l with next:=l.next+pcs.length,H:=takeH l.H ps}:Lg).homes d'.last=l.homes d.last:=by show d'.last.L.length-2-l.n=d.last.L.length-2-l.n;rw [hlast]
     rw [this]
     exact hb.rise
   · show l.tail≤endCt l.tail D
     omega
 · show d'.Q=ringQ l.n (allPcs (endCt l.tail D) (P++ [⟨l.epoch,ps⟩]))
   rw [hQ,h.q,allPcs_append, ←hn.2.1]
   unfold ringQ
   rw [List.map_append,hpc]
   show _=_++List.map _ ((⟨l.epoch,ps⟩:Rc).pcs l.next++ [])
   rw [List.append_nil]
 · show Goods (l.homes d') l.epoch (endCt l.tail D) (P++ [⟨l.epoch,ps⟩])
   rw [hh]
   refine (goods_append P _ _).2 ⟨h.gs,rfl,⟨ht,hb,?_⟩,trivial⟩
   rw [←hn.2.1,hc,hpc]
 · show l.next+pcs.length=endCt l.tail (D++(P++ [⟨l.epoch,ps⟩]))
   rw [←List.append_assoc,endCt_append, ←h.nx,hlen]
   rfl
 · show takeH l.H ps=applyH (fun _=>none) (D++(P++ [⟨l.epoch,ps⟩]))
   rw [←List.append_assoc,applyH_append, ←h.H]
   rfl
theorem flush_get {d d':Dsk} (hL:d'.L=laid d.Q d.L) (hQ:d'.Q= []) {i:Nat} (hi:i<d.L.length):d'.get i=d.get i:=by
 show seenQ d'.Q i (d'.L.getD i [])=seenQ d.Q i (d.L.getD i [])
 rw [hQ,hL,laid_get _ _ _ hi]
 rfl
theorem last_of_none {d:Dsk} (hQ:d.Q= []):d.last=d:=by
 obtain ⟨L,Q,f,a,b⟩:=d
 simp only at hQ
 subst hQ
 rfl
theorem Rg.flush {d d':Dsk} {l:Lg} {F:Nat} {D P:List Rc} (h:Rg d l F D P) (hL:d'.L=laid d.Q d.L) (hQ:d'.Q= []) (hok:d'.ok):Rg d' l F (D++P) []:=by
 have hlen:d'.L.length=d.L.length:=by rw [hL,laid_len]
 have hh:l.homes d'=l.homes d:=by unfold Lg.homes;rw [hlen]
 have hn:=h.next
 have hnd:=h.fit.nd
 have hn2:=h.fit.n2
 have hlt: ∀c,2+c %l.n<d.L.length:=fun c=>by have:=Nat.mod_lt c (show 0<l.n by omega);omega
 refine ⟨h.fit.disk hlen,hok,?_,by rw [hQ];rfl,trivial,by rw [List.append_nil];exact h.nx,by rw [List.append_nil];exact h.H⟩
 rw [last_of_none hQ]
 have hb:=h.base
 have hnx:endCt l.tail (D++P)=l.next:=h.nx.symm
 refine ⟨hb.hd.same fun i hi=> ?_,by rw [hh];exact h.rise,fun q hq=> ?_,by rw [hnx];exact h.fit.next,?_,?_,fun c q c1 c2 hq=> ?_⟩
 · rw [flush_get hL hQ (by omega)]
   exact h.rest fun q hq=>by omega
 · rw [flush_get hL hQ (hlt _)]
   exact h.slot q hq
 · rw [lastF_append]
   by_cases hP:P= []
   · subst hP
     exact hb.fle
   · rw [lastF_goods P _ _ h.gs hP]
     exact Nat.le_refl _
 · rw [lastF_append]
   by_cases hP:P= []
   · subst hP
     rw [List.append_nil]
     refine hb.stop.imp id fun hs=>stepB_same' (d:=d.last) (by show d'.L.length=d.last.L.length;exact hlen) (by show l.tail≤endCt l.tail D;omega) (fun c c1 c2=>pieceB_same ?_) hs
     have e:d'.get (2+c %l.n)=d.last.get (2+c %l.n):=by
       rw [flush_get hL hQ (hlt _)]
       exact h.rest fun q hq=>by cases hq
     exact e
   · exact .inl (lastF_goods P _ _ h.gs hP)
 · rw [hnx] at c1
   have e:pieceB d' l.n c=pieceB d.last l.n c:=pieceB_same (by
     rw [flush_get hL hQ (hlt _)]
     exact h.restC (by omega) c2 (.inr c1))
   rw [e] at hq
   exact hb.old c q (by omega) c2 hq
theorem newest_ge (d:Dsk): ∀k i,i<k→(endsB (d.get i)).1≤newestB d k∧(endsB (d.get i)).2≤newestB d k
 |k+1,i,h=>by
   simp only [newestB]
   by_cases hi:i=k
   · subst hi
     omega
   · have:=newest_ge d k i (by omega)
     omega
theorem newest_seal {d:Dsk} {k i:Nat} {q:Pc} (hi:i<k) (hq:q.ok) (h:d.get i=sealB q):q.ep≤newestB d k:=by
 have:=newest_ge d k i hi
 rw [h,ends_seal hq] at this
 exact this.1
theorem lastF_mem: ∀(rs:List Rc) (ct f:Nat),rs≠ []→ ∃q∈allPcs ct rs,q.ep=lastF f rs
 | [],_,_,h=>absurd rfl h
 | [r],ct,f,_=>⟨_,List.mem_append_left _ (List.mem_of_getElem? (r.get ct (i:=0) r.pos)),rfl⟩
 |r::s::rs,ct,f,_=>by
   obtain ⟨q,hq,h⟩:=lastF_mem (s::rs) (ct+r.n) r.ep (by simp)
   exact ⟨q,List.mem_append_right _ hq,h⟩
theorem stepB_epoch {d:Dsk} {l l':Lg} {f:Nat} (h1:l'.n=l.n) (h2:l'.tail=l.tail) (h3:l'.next=l.next):stepB d l f=none→stepB d l' f=none:=by
 intro hs
 have hr:l'.recordB d f=l.recordB d f:=by unfold Lg.recordB Lg.free;rw [h1,h2,h3]
 have hh:l'.homes d=l.homes d:=by unfold Lg.homes;rw [h1]
 unfold stepB at hs ⊢
 rw [hr,hh]
 cases hj:joinB (l.recordB d f) with
 |none=>rfl
 |some b=>
   rw [hj] at hs
   simp only at hs ⊢
   cases hd:decB b (l.homes d) with
   |none=>rfl
   |some ps=>rw [hd] at hs;cases hs
theorem headPc_ok {ep:Nat} {h:Hd} (he:ep≤16777215) (hg:h.gen≤1099511627775):(headPc ep h).ok:=⟨he,hg,by
 show (headD h.tail h.floor).length≤106
 simp [headD,pack_len,bitsN_len]⟩
theorem open_base {d:Dsk} {n gen tail F:Nat} {D:List Rc} {E:Nat} (hd:d.ok) (hn2:2≤n) (hnd:n+3≤d.L.length) (hh:HeadIs d gen tail F) (hr:Rise (d.L.length-2-n) tail F D) (hs: ∀q∈allPcs tail D,d.get (2+q.ct %n)=sealB q) (hroom:endCt tail D≤tail+n)
   (hst:stepB d (Lg.behind (log0 n E gen tail) D) (lastF F D)=none) (hnew:newestB d (2+n)<16777215):openB d n=some (Lg.behind (log0 n (newestB d (2+n)+1) gen tail) D):=by
 have key: ∀(o:Option Hd),d.head 0=o→(o.getD hd0).gen=gen→(o.getD hd0).tail=tail→(if o.isSome=true then (o.getD hd0).floor else 1)=F→openB d n=some (Lg.behind (log0 n (newestB d (2+n)+1) gen tail) D):=by
   intro o ho h1 h2 h3
   unfold openB
   rw [if_neg (by omega),ho,h1,h2,h3]
   congr 1
   have hle:=endCt_le D tail
   exact replay_stop (l:=log0 n (newestB d (2+n)+1) gen tail) (homes_le hd) ((chain_iff _ _ _ _ _ _).2 ⟨hr,hs⟩) (Nat.le_refl _) hroom (stepB_epoch (l:=Lg.behind (log0 n E gen tail) D) (l':=Lg.behind (log0 n (newestB d (2+n)+1) gen tail) D) rfl rfl rfl hst)
 rcases hh with ⟨hh, -⟩|⟨hh,rfl,rfl,rfl⟩
 · exact key _ hh rfl rfl rfl
 · exact key _ hh rfl rfl rfl
theorem base_stop {d:Dsk} {l:Lg} {F:Nat} {D:List Rc} (h:Base d l F D) (hle:l.tail≤endCt l.tail D):stepB d (Lg.behind (log0 l.n l.epoch l.gen l.tail) D) (lastF F D)=none:=by
 refine h.stop.elim (fun he=> ?_) id
 refine step_old (d:=d) (d':=d) (E:=l.epoch) rfl hle (.inl he) (fun c q h1 h2 hq=>h.old c q h1 h2 hq) (fun c _ _=> .inl rfl) fun _=> .inl rfl
theorem Rg.open_ {d:Dsk} {l:Lg} {F:Nat} {D:List Rc} (h:Rg d l F D []) (hnew:newestB d (2+l.n)<16777215):
   ∃l2,openB d l.n=some l2∧l2.n=l.n∧l2.H=l.H∧l2.next=l.next∧l2.tail=l.tail∧l2.gen=l.gen∧l2.epoch=newestB d (2+l.n)+1∧l2.err=0∧Rg d l2 F D []:=by
 have hQ:d.Q= []:=h.q
 have hb:=h.base
 rw [last_of_none hQ] at hb
 have hn:=h.next
 have hnx:l.next=endCt l.tail D:=by have:=h.nx;rwa [List.append_nil] at this
 have hH:l.H=applyH (fun _=>none) D:=by have:=h.H;rwa [List.append_nil] at this
 have hst:=base_stop hb hn.2.2
 have ho:=open_base h.dok h.fit.n2 h.fit.nd hb.hd hb.rise hb.slots hb.room hst hnew
 refine ⟨_,ho,rfl,hH.symm,hnx.symm,rfl,rfl,rfl,rfl,?_⟩
 have hslots: ∀q∈allPcs l.tail D,q.ep≤newestB d (2+l.n):=fun q hq=>newest_seal (i:=2+q.ct %l.n) (by have:=Nat.mod_lt q.ct (show 0<l.n by have:=h.fit.n2;omega);omega) (rise_ok D _ _ hb.rise q hq) (hb.slots q hq)
 refine ⟨open_fit h.dok h.fit.n2 h.fit.nd ho,h.dok,?_,hQ,trivial,by rw [List.append_nil];rfl,by rw [List.append_nil];rfl⟩
 rw [last_of_none hQ]
 refine ⟨hb.hd,hb.rise,hb.slots,hb.room,?_, .inr (stepB_epoch (l:=Lg.behind (log0 l.n l.epoch l.gen l.tail) D) (l':=Lg.behind (log0 l.n (newestB d (2+l.n)+1) l.gen l.tail) D) rfl rfl rfl hst),fun c q h1 h2 hq=> ?_⟩
 · show lastF F D≤newestB d (2+l.n)+1
   by_cases hD:D= []
   · subst hD
     show F≤_
     rcases hb.hd with ⟨_,hi2⟩|⟨_,_,_,rfl⟩
     · by_cases hF:F≤16777215
       · have:=newest_seal (k:=2+l.n) (by have:=Nat.mod_lt l.gen (show 0<2 by decide);omega) (headPc_ok hF h.fit.gen) hi2
         have:F≤newestB d (2+l.n):=this
         omega
       · have:=hb.fle
         have:=h.fit.epoch
         have h3:F≤l.epoch:=hb.fle
         omega
     · omega
   · obtain ⟨q,hq,he⟩:=lastF_mem D l.tail F hD
     have:=hslots q hq
     omega
 · show q.ep<newestB d (2+l.n)+1
   obtain ⟨hg,rfl⟩:=pieceB_get hq
   have hi:2+q.ct %l.n<2+l.n:=by have:=Nat.mod_lt q.ct (show 0<l.n by have:=h.fit.n2;omega);omega
   have hqok:q.ok:=(pieceB_ok (n:=l.n) h.dok (by have:=h.fit.n2;omega) (by have:=h.fit.nd;omega) hq).1
   have:=newest_seal hi hqok hg
   omega
end Go.Proofs.YtldimgchpgoggaaGreat
namespace Go.Tn.Lp
open Go.Tn Go.Tn.Bt
def tornB (k:Nat) (a b:List Nat):List Nat:=a.take k++b.drop k
def epN (b:List Nat):Nat:=numOf b/1099511627776
theorem epN8 {a b c d e f g h:Nat} (hd:d<256) (he:e<256) (hf:f<256) (hg:g<256) (hh:h<256):epN [a,b,c,d,e,f,g,h]=a*65536+b*256+c:=by
 unfold epN numOf
 simp only [List.foldl_cons,List.foldl_nil]
 omega
theorem epN_hi {l:List Nat} (h8:l.length=8) (hb: ∀x∈l,x<256): ∃a b c r,l=a::b::c::r∧r.length=5∧a<256∧b<256∧c<256∧epN l=a*65536+b*256+c:=by
 obtain ⟨a,b,c,d,e,f,g,h,rfl⟩: ∃a b c d e f g h,l= [a,b,c,d,e,f,g,h]:=by
   match l,h8 with
   | [a,b,c,d,e,f,g,h],_=>exact ⟨a,b,c,d,e,f,g,h,rfl⟩
 have h:=hb
 exact ⟨a,b,c,_,rfl,rfl,hb _ (by simp),hb _ (by simp),hb _ (by simp),epN8 (hb _ (by simp)) (hb _ (by simp)) (hb _ (by simp)) (hb _ (by simp)) (hb _ (by simp))⟩
theorem epN_stamp {p:Pc} (h:p.ok):epN (bytesN (stampN p) 8)=p.ep:=by
 have h1:=h.1
 have h2:=h.2.1
 unfold epN
 rw [numOf_bytesN]
 have hs:stampN p %256 ^ 8=stampN p:=Nat.mod_eq_of_lt (by unfold stampN;omega)
 rw [hs]
 unfold stampN
 omega
theorem stamp_inj {p q:Pc} (hp:p.ok) (hq:q.ok) (h:bytesN (stampN p) 8=bytesN (stampN q) 8):p.ep=q.ep∧p.ct=q.ct:=by
 have h1:=congrArg numOf h
 rw [numOf_bytesN,numOf_bytesN] at h1
 have hs:stampN p %256 ^ 8=stampN p:=Nat.mod_eq_of_lt (by have:=hp.1;have:=hp.2.1;unfold stampN;omega)
 have ht:stampN q %256 ^ 8=stampN q:=Nat.mod_eq_of_lt (by have:=hq.1;have:=hq.2.1;unfold stampN;omega)
 rw [hs,ht] at h1
 have a1:=hp.1
 have a2:=hp.2.1
 have a3:=hq.1
 have a4:=hq.2.1
 unfold stampN at h1
 omega
theorem unseal_ends {b:List Nat} {p:Pc} (hb: ∀x∈b,x<256) (h:unsealB b=some p):p.ok∧b.length=128∧b.take 8=bytesN (stampN p) 8∧b.drop 120=bytesN (stampN p) 8:=by
 have hok:=(unsealB_ok hb h).1
 have hs:=seal_unseal h
 refine ⟨hok,by rw [←hs,sealB_len],by rw [←hs];exact seal_front p hok.2.2,by rw [←hs];exact seal_back p⟩
structure Sect (E:Nat) (X:List Nat):Prop where
 len:X.length=128
 byt: ∀x∈X,x<256
 fe:epN (X.take 8)≤E
 be:epN (X.drop 120)≤E
 hi:epN (X.drop 120)/256≤epN (X.take 8)/256
 old:(epN (X.take 8)<E∧epN (X.drop 120)<E)∨ ∃p,unsealB X=some p∧p.ep=E
theorem take_torn {k n:Nat} {a b:List Nat} (ha:a.length=128) (hb:b.length=128) (hn:n≤128):(tornB k a b).take n=(a.take n).take k++(b.take n).drop k:=by
 unfold tornB
 rw [List.take_append,List.take_take,List.take_take,List.length_take,List.take_drop,Nat.min_comm]
 by_cases hk:k≤128
 · rw [show n-min k a.length=n-k by omega]
   by_cases hkn:k≤n
   · rw [show k+(n-k)=n by omega]
   · have e1:(b.take n).drop k= []:=List.drop_eq_nil_of_le (by rw [List.length_take];omega)
     have e2:(b.take (k+(n-k))).drop k= []:=List.drop_eq_nil_of_le (by rw [List.length_take];omega)
     rw [e1,e2]
 · have e1:(b.take n).drop k= []:=List.drop_eq_nil_of_le (by rw [List.length_take];omega)
   have e2:(b.take (k+(n-min k a.length))).drop k= []:=List.drop_eq_nil_of_le (by rw [List.length_take];omega)
   rw [e1,e2]
theorem drop_torn {k:Nat} {a b:List Nat} (ha:a.length=128):(tornB k a b).drop 120=(a.drop 120).take (k-120)++(b.drop 120).drop (k-120):=by
 unfold tornB
 rw [List.drop_append,List.length_take,List.drop_take,List.drop_drop,List.drop_drop]
 congr 2
 omega
theorem ar1 {E a b c a' b' c':Nat} (h1:E=a*65536+b*256+c) (hE:E<65536) (h2:a'*65536+b'*256+c'<E):a=a':=by omega
theorem ar2 {E a b c a' b' c' a'' c'':Nat} (h1:E=a*65536+b*256+c) (hE:E<65536) (hc:c<256) (hc':c'<256) (hc'':c''<256) (h2:a'*65536+b'*256+c'<E) (h3:a''*65536+b*256+c''<E)
   (hh:(a''*65536+b*256+c'')/256≤(a'*65536+b'*256+c')/256):a=a'∧b=b':=by omega
theorem torn_or {E k:Nat} {X:List Nat} {q:Pc} (hX:Sect E X) (hE:E<65536) (hq:q.ok) (hqd: ∀x∈q.da,x<256) (hqE:q.ep=E) (hct: ∀p,unsealB X=some p→p.ep=E→p.ct≠q.ct):
   unsealB (tornB k (sealB q) X)=none∨tornB k (sealB q) X=X∨tornB k (sealB q) X=sealB q:=by
 have hSl:=sealB_len q
 have hSb:=sealB_lt q hqd hq.2.2
 have hfS:=seal_front q hq.2.2
 have hbS:=seal_back q
 have heS:=epN_stamp hq
 cases hu:unsealB (tornB k (sealB q) X) with
 |none=>exact .inl rfl
 |some p'=>
   right
   have hYb: ∀x∈tornB k (sealB q) X,x<256:=fun x hx=>by
     rcases List.mem_append.1 hx with hx|hx
     · exact hSb x (List.mem_of_mem_take hx)
     · exact hX.byt x (List.mem_of_mem_drop hx)
   obtain ⟨hpok,hYl,hf,hb⟩:=unseal_ends hYb hu
   have hfb:(tornB k (sealB q) X).take 8=(tornB k (sealB q) X).drop 120:=hf.trans hb.symm
   rw [take_torn hSl hX.len (by decide),drop_torn hSl,hfS,hbS] at hfb
   obtain ⟨s,hs⟩: ∃s,bytesN (stampN q) 8=s:=⟨_,rfl⟩
   have hsl:s.length=8:=by rw [←hs,bytesN_len]
   have hsb: ∀x∈s,x<256:=by rw [←hs];exact bytesN_lt _ _
   rw [hs] at hfb hfS hbS heS
   have hfl:(X.take 8).length=8:=by rw [List.length_take,hX.len];rfl
   have hbl:(X.drop 120).length=8:=by rw [List.length_drop,hX.len]
   have hXf: ∀x∈X.take 8,x<256:=fun x hx=>hX.byt x (List.mem_of_mem_take hx)
   have hXb: ∀x∈X.drop 120,x<256:=fun x hx=>hX.byt x (List.mem_of_mem_drop hx)
   by_cases hk128:128≤k
   · right
     unfold tornB
     rw [List.take_of_length_le (by omega),List.drop_eq_nil_of_le (by rw [hX.len];omega),List.append_nil]
   by_cases hk8:8≤k
   · have z1:(X.take 8).drop k= []:=List.drop_eq_nil_of_le (by rw [hfl];omega)
     have z2:s.take k=s:=List.take_of_length_le (by rw [hsl];omega)
     rw [z1,z2,List.append_nil] at hfb
     by_cases hk120:k≤120
     · exfalso
       rw [show k-120=0 by omega,List.take_zero,List.nil_append,List.drop_zero] at hfb
       rcases hX.old with ⟨_,h2⟩|⟨p,hp,hpe⟩
       · rw [←hfb,heS] at h2
         omega
       · obtain ⟨ok1,_,_,h4⟩:=unseal_ends hX.byt hp
         have:=(stamp_inj ok1 hq (by rw [←h4, ←hfb,hs])).2
         exact hct p hp hpe this
     · right
       -- the rest of both is the same
       have h1:(X.drop 120).drop (k-120)=s.drop (k-120):=by
         have e:=congrArg (List.drop (k-120)) hfb
         rw [List.drop_left' (by rw [List.length_take,hsl];omega)] at e
         exact e.symm
       rw [←hbS,List.drop_drop,List.drop_drop,show 120+(k-120)=k by omega] at h1
       unfold tornB
       rw [h1,List.take_append_drop]
   · left
     rw [show k-120=0 by omega,List.take_zero,List.nil_append,List.drop_zero] at hfb
     -- where the first k bytes are the same,so is the sector
     have key:s.take k=(X.take 8).take k→tornB k (sealB q) X=X:=fun h=>by
       unfold tornB
       rw [←hfS,List.take_take,List.take_take,Nat.min_eq_left (by omega)] at h
       rw [h,List.take_append_drop]
     rcases hX.old with ⟨h1,h2⟩|⟨p,hp,hpe⟩
     · obtain ⟨a,b,c,r,hsd,hr,ha1,hb1,hc1,he1⟩:=epN_hi hsl hsb
       obtain ⟨a',b',c',r',hfd,hr',ha2,hb2,hc2,he2⟩:=epN_hi hfl hXf
       obtain ⟨a'',b'',c'',r'',hbd,hr'',ha3,hb3,hc3,he3⟩:=epN_hi hbl hXb
       have hhi:=hX.hi
       rw [hsd,hfd,hbd] at hfb
       rw [hsd,hfd] at key
       rw [he2,he3] at hhi
       rw [he2] at h1
       rw [he3] at h2
       have he1:a*65536+b*256+c=E:=by rw [←he1,heS,hqE]
       clear hu hYb hpok hYl hf hb hSl hSb hfS hbS hs hsl hsb hfl hbl hXf hXb hct hX hq hqd hfd hbd hsd heS
       rcases k with _|_|_|k
       · exact key rfl
       · refine key ?_
         rw [ar1 he1.symm hE h1]
         rfl
       · simp only [List.take_succ_cons,List.take_zero,List.drop_succ_cons,List.drop_zero,List.cons_append,List.nil_append,List.cons.injEq] at hfb
         obtain ⟨f1,f2, -⟩:=hfb
         subst f2
         refine key ?_
         obtain ⟨g1,g2⟩:=ar2 he1.symm hE hc1 hc2 hc3 h1 h2 hhi
         rw [g1,g2]
         rfl
       · exfalso
         simp only [List.take_succ_cons,List.cons_append,List.cons.injEq] at hfb
         obtain ⟨f1,f2,f3, -⟩:=hfb
         subst f1 f2 f3
         omega
     · obtain ⟨_,_,h3,h4⟩:=unseal_ends hX.byt hp
       refine key ?_
       have e:X.drop 120=X.take 8:=h4.trans h3.symm
       rw [e] at hfb
       have:=congrArg (List.take k) hfb
       rwa [List.take_left' (by rw [List.length_take,hsl];omega)] at this
theorem epN3 {a b c:Nat} {r:List Nat} (hr:r.length=5) (hb: ∀x∈r,x<256):epN (a::b::c::r)=a*65536+b*256+c:=by
 match r,hr with
 | [d,e,f,g,h],_=>exact epN8 (hb _ (by simp)) (hb _ (by simp)) (hb _ (by simp)) (hb _ (by simp)) (hb _ (by simp))
theorem epN_mix {s x:List Nat} (hs:s.length=8) (hx:x.length=8) (hsb: ∀y∈s,y<256) (hxb: ∀y∈x,y<256) (h1:epN s<65536) (h2:epN x<65536) (j:Nat):
   epN (s.take j++x.drop j)=epN x∨epN (s.take j++x.drop j)=epN s/256*256+epN x %256∨epN (s.take j++x.drop j)=epN s:=by
 obtain ⟨a,b,c,r,rfl,hr,ha1,hb1,hc1,he1⟩:=epN_hi hs hsb
 obtain ⟨a',b',c',r',rfl,hr',ha2,hb2,hc2,he2⟩:=epN_hi hx hxb
 rw [he1] at h1 ⊢
 rw [he2] at h2 ⊢
 have hrb: ∀y∈r,y<256:=fun y hy=>hsb y (by simp [hy])
 have hrb': ∀y∈r',y<256:=fun y hy=>hxb y (by simp [hy])
 clear hsb hxb hs hx
 rcases j with _|_|_|j
 · left
   exact epN3 hr' hrb'
 · left
   have:=epN3 (a:=a) (b:=b') (c:=c') hr' hrb'
   refine Eq.trans ?_ (this.trans ?_)
   · rfl
   · omega
 · right;left
   have:=epN3 (a:=a) (b:=b) (c:=c') hr' hrb'
   refine Eq.trans ?_ (this.trans ?_)
   · rfl
   · omega
 · right;right
   have hl:(r.take j++r'.drop j).length=5:=by
     rw [List.length_append,List.length_take,List.length_drop]
     omega
   have hb3: ∀y∈r.take j++r'.drop j,y<256:=fun y hy=>by
     rcases List.mem_append.1 hy with hy|hy
     · exact hrb y (List.mem_of_mem_take hy)
     · exact hrb' y (List.mem_of_mem_drop hy)
   exact epN3 (a:=a) (b:=b) (c:=c) hl hb3
theorem torn_len {k:Nat} {a b:List Nat} (ha:a.length=128) (hb:b.length=128):(tornB k a b).length=128:=by
 unfold tornB
 rw [List.length_append,List.length_take,List.length_drop]
 omega
theorem torn_lt {k:Nat} {a b:List Nat} (ha: ∀x∈a,x<256) (hb: ∀x∈b,x<256): ∀x∈tornB k a b,x<256:=fun x hx=>by
 rcases List.mem_append.1 hx with hx|hx
 · exact ha x (List.mem_of_mem_take hx)
 · exact hb x (List.mem_of_mem_drop hx)
structure SectA (M:Nat) (X:List Nat):Prop where
 len:X.length=128
 byt: ∀x∈X,x<256
 fe:epN (X.take 8)≤M
 be:epN (X.drop 120)≤M
 hi:epN (X.drop 120)/256≤epN (X.take 8)/256
theorem Sect.a {E:Nat} {X:List Nat} (h:Sect E X):SectA E X:=⟨h.len,h.byt,h.fe,h.be,h.hi⟩
theorem SectA.mono {M N:Nat} {X:List Nat} (h:SectA M X) (hM:M≤N):SectA N X:=⟨h.len,h.byt,Nat.le_trans h.fe hM,Nat.le_trans h.be hM,h.hi⟩
theorem SectA.next {M E:Nat} {X:List Nat} (h:SectA M X) (hM:M<E):Sect E X:=⟨h.len,h.byt,by have:=h.fe;omega,by have:=h.be;omega,h.hi, .inl ⟨by have:=h.fe;omega,by have:=h.be;omega⟩⟩
theorem torn_ends {E k:Nat} {X:List Nat} {q:Pc} (hX:SectA E X) (hE:E<65536) (hq:q.ok) (hqd: ∀x∈q.da,x<256) (hqE:q.ep=E):SectA (E/256*256+255) (tornB k (sealB q) X):=by
 have hSl:=sealB_len q
 have hSb:=sealB_lt q hqd hq.2.2
 have hfS:=seal_front q hq.2.2
 have hbS:=seal_back q
 have heS:=epN_stamp hq
 rw [hqE] at heS
 have hsl:(bytesN (stampN q) 8).length=8:=bytesN_len _ _
 have hsb: ∀x∈bytesN (stampN q) 8,x<256:=bytesN_lt _ _
 have hfl:(X.take 8).length=8:=by rw [List.length_take,hX.len];rfl
 have hbl:(X.drop 120).length=8:=by rw [List.length_drop,hX.len]
 have hXf: ∀x∈X.take 8,x<256:=fun x hx=>hX.byt x (List.mem_of_mem_take hx)
 have hXb: ∀x∈X.drop 120,x<256:=fun x hx=>hX.byt x (List.mem_of_mem_drop hx)
 have h1:=hX.fe
 have h2:=hX.be
 have h3:=hX.hi
 have ef:(tornB k (sealB q) X).take 8=(bytesN (stampN q) 8).take k++(X.take 8).drop k:=by rw [take_torn hSl hX.len (by decide),hfS]
 have eb:(tornB k (sealB q) X).drop 120=(bytesN (stampN q) 8).take (k-120)++(X.drop 120).drop (k-120):=by rw [drop_torn hSl,hbS]
 have mf:=epN_mix hsl hfl hsb hXf (by omega) (by omega) k
 have mb:=epN_mix hsl hbl hsb hXb (by omega) (by omega) (k-120)
 rw [←ef] at mf
 rw [←eb] at mb
 rw [heS] at mf mb
 have hk0:k≤120→epN ((tornB k (sealB q) X).drop 120)=epN (X.drop 120):=fun h=>by
   rw [eb,show k-120=0 by omega]
   rfl
 have hk8:120<k→epN ((tornB k (sealB q) X).take 8)=E:=fun h=>by
   rw [ef,List.take_of_length_le (by rw [hsl];omega)]
   have z:(X.take 8).drop k= []:=List.drop_eq_nil_of_le (by rw [hfl];omega)
   rw [z,List.append_nil,heS]
 have key:epN ((tornB k (sealB q) X).take 8)≤E/256*256+255∧epN ((tornB k (sealB q) X).drop 120)≤E/256*256+255∧epN ((tornB k (sealB q) X).drop 120)/256≤epN ((tornB k (sealB q) X).take 8)/256:=by
   clear ef eb hfS hbS heS hsl hsb hfl hbl hXf hXb hX hq hqd hqE
   generalize epN ((tornB k (sealB q) X).take 8)=f at*
   generalize epN ((tornB k (sealB q) X).drop 120)=b at*
   generalize epN (X.take 8)=fx at*
   generalize epN (X.drop 120)=bx at*
   refine ⟨by omega,by omega,?_⟩
   by_cases h120:k≤120
   · have:=hk0 h120
     omega
   · have:=hk8 (by omega)
     omega
 exact ⟨torn_len hSl hX.len,torn_lt hSb hX.byt,key.1,key.2.1,key.2.2⟩
theorem seal_sect {q:Pc} (hq:q.ok) (hqd: ∀x∈q.da,x<256):Sect q.ep (sealB q):=by
 have hfS:=seal_front q hq.2.2
 have hbS:=seal_back q
 have heS:=epN_stamp hq
 refine ⟨sealB_len q,sealB_lt q hqd hq.2.2,?_,?_,?_, .inr ⟨q,unseal_seal hq,rfl⟩⟩
 · rw [hfS,heS];exact Nat.le_refl _
 · rw [hbS,heS];exact Nat.le_refl _
 · rw [hfS,hbS];exact Nat.le_refl _
end Go.Tn.Lp
namespace Go.Tn.Ck
structure Pl where
 used:Bool
 pinned:Bool
 marked:Bool
structure Rn where
 L:List Pl
 hand:Nat
def Pl.no:Pl:=⟨false,false,false⟩
def Rn.at_ (r:Rn) (i:Nat):Pl:=(r.L[i]?).getD Pl.no
def Rn.put (r:Rn) (i:Nat) (p:Pl):Rn:={r with L:=r.L.set i p}
def Rn.use (r:Rn) (i:Nat):Rn:=r.put i ⟨true,false,true⟩
def Rn.drop (r:Rn) (i:Nat):Rn:=r.put i Pl.no
def Rn.touch (r:Rn) (i:Nat):Rn:=if (r.at_ i).used then r.put i {r.at_ i with marked:=true} else r
def Rn.pin (r:Rn) (i:Nat):Rn:=if (r.at_ i).used then r.put i {r.at_ i with pinned:=true} else r
def Rn.step (r:Rn):Rn×Option Nat:=
 if (r.at_ r.hand).pinned then ({r with hand:=(r.hand+1) %r.L.length},none)
 else if (r.at_ r.hand).marked then ({L:=r.L.set r.hand {r.at_ r.hand with marked:=false},hand:=(r.hand+1) %r.L.length},none)
 else ({r with hand:=(r.hand+1) %r.L.length},some r.hand)
def Rn.scan:Nat→Rn→Rn×Option Nat
 |0,r=>(r,none)
 |k+1,r=>match r.step with
   |(r',some i)=>(r',some i)
   |(r',none)=>Rn.scan k r'
def Rn.free (r:Rn):Option Nat:=(List.range r.L.length).find? fun i=> !(r.at_ i).used
def Rn.allPinned (r:Rn):Bool:=r.L.all (·.pinned)
def Rn.next (r:Rn):Rn×Int×Nat:=match r.free with
 |some i=>(r,(i:Int),0)
 |none=>if r.allPinned then (r, -1,8) else match r.scan (2*r.L.length) with
   |(r',some i)=>(r',(i:Int),0)
   |(r',none)=>(r', -1,8)
theorem step_len (r:Rn):r.step.1.L.length=r.L.length:=by
 unfold Rn.step
 split
 · rfl
 · split
   · simp
   · rfl
theorem step_hand (r:Rn):r.step.1.hand=(r.hand+1) %r.L.length:=by
 unfold Rn.step
 split
 · rfl
 · split<;>rfl
theorem scan_len: ∀(k:Nat) (r:Rn),(r.scan k).1.L.length=r.L.length
 |0,r=>rfl
 |k+1,r=>by
   unfold Rn.scan
   have h:=step_len r
   rcases hs:r.step with ⟨r',_|i⟩
   · rw [hs] at h
     simp only
     rw [scan_len k r',h]
   · rw [hs] at h
     exact h
theorem scan_hand: ∀(k:Nat) (r:Rn),r.hand<r.L.length→(r.scan k).1.hand<r.L.length
 |0,r,h=>h
 |k+1,r,h=>by
   unfold Rn.scan
   have hl:=step_len r
   have hh:=step_hand r
   have hm:=Nat.mod_lt (r.hand+1) (show 0<r.L.length by omega)
   rcases hs:r.step with ⟨r',_|i⟩
   · rw [hs] at hl hh
     simp only at hl hh ⊢
     have:=scan_hand k r' (by omega)
     omega
   · rw [hs] at hh
     simp only at hh ⊢
     omega
theorem scan_snoc: ∀(k:Nat) (r:Rn),(r.scan k).2=none→r.scan (k+1)=(r.scan k).1.step
 |0,r,_=>by
   show (match r.step with|(r',some i)=>(r',some i)|(r',none)=>Rn.scan 0 r')=r.step
   rcases hs:r.step with ⟨r',_|i⟩<;>rfl
 |k+1,r,h=>by
   rw [Rn.scan] at h ⊢
   conv=>rhs;rw [Rn.scan]
   rcases hs:r.step with ⟨r',_|i⟩
   · rw [hs] at h
     exact scan_snoc k r' h
   · rw [hs] at h
     cases h
theorem scan_none_le: ∀{k j:Nat} {r:Rn},j≤k→(r.scan k).2=none→(r.scan j).2=none
 |k,0,r,_,_=>rfl
 |0,j+1,r,h,_=>absurd h (by omega)
 |k+1,j+1,r,h,hn=>by
   rw [Rn.scan] at hn ⊢
   rcases hs:r.step with ⟨r',_|i⟩
   · rw [hs] at hn
     exact scan_none_le (by omega) hn
   · rw [hs] at hn
     cases hn
theorem at_step {r:Rn} (h:r.hand<r.L.length) (i:Nat):(r.step.1.at_ i).pinned=(r.at_ i).pinned∧((r.step.1.at_ i).marked=true→(r.at_ i).marked=true)∧(r.step.2=none→i=r.hand→(r.at_ i).pinned=true∨(r.step.1.at_ i).marked=false):=by
 unfold Rn.step
 by_cases hp:(r.at_ r.hand).pinned
 · rw [if_pos hp]
   exact ⟨rfl,id,fun _ e=> .inl (e ▸ hp)⟩
 · rw [if_neg hp]
   by_cases hm:(r.at_ r.hand).marked
   · rw [if_pos hm]
     by_cases hi:i=r.hand
     · subst hi
       have e:({L:=r.L.set r.hand {r.at_ r.hand with marked:=false},hand:=(r.hand+1) %r.L.length}:Rn).at_ r.hand={r.at_ r.hand with marked:=false}:=by
         unfold Rn.at_
         simp [h]
       rw [e]
       exact ⟨rfl,(fun e=>by cases e),fun _ _=> .inr rfl⟩
     · have e:({L:=r.L.set r.hand {r.at_ r.hand with marked:=false},hand:=(r.hand+1) %r.L.length}:Rn).at_ i=r.at_ i:=by
         unfold Rn.at_
         rw [List.getElem?_set,if_neg (fun e=>hi e.symm)]
       rw [e]
       exact ⟨rfl,id,fun _ e=>absurd e hi⟩
   · rw [if_neg hm]
     exact ⟨rfl,id,(fun e=>by cases e)⟩
theorem mod_add_one {h k n:Nat}:((h+k) %n+1) %n=(h+(k+1)) %n:=by rw [Nat.mod_add_mod];rfl
theorem scan_inv {r:Rn} (h:r.hand<r.L.length): ∀k,(r.scan k).2=none→(r.scan k).1.hand=(r.hand+k) %r.L.length∧(∀i,((r.scan k).1.at_ i).pinned=(r.at_ i).pinned)∧
   (∀i,((r.scan k).1.at_ i).marked=true→(r.at_ i).marked=true)∧ ∀j,j<k→(r.at_ ((r.hand+j) %r.L.length)).pinned=true∨((r.scan k).1.at_ ((r.hand+j) %r.L.length)).marked=false
 |0,_=>⟨by show r.hand=_;rw [Nat.add_zero,Nat.mod_eq_of_lt h],fun _=>rfl,fun _=>id,fun j hj=>absurd hj (Nat.not_lt_zero j)⟩
 |k+1,hn=>by
   have hn':=scan_none_le (Nat.le_succ k) hn
   obtain ⟨e1,e2,e3,e4⟩:=scan_inv h k hn'
   have hs:=scan_snoc k r hn'
   rw [hs] at hn ⊢
   have hl:=scan_len k r
   have hh:=scan_hand k r h
   have ha:=fun i=>at_step (r:=(r.scan k).1) (by rw [hl];exact hh) i
   refine ⟨?_,fun i=>(ha i).1.trans (e2 i),fun i hi=>e3 i ((ha i).2.1 hi),fun j hj=> ?_⟩
   · rw [step_hand,hl,e1,mod_add_one]
   · by_cases hjk:j<k
     · refine (e4 j hjk).imp id fun hm=> ?_
       cases hq:((r.scan k).1.step.1.at_ ((r.hand+j) %r.L.length)).marked with
       |false=>rfl
       |true=>
         have:=(ha _).2.1 hq
         rw [hm] at this
         cases this
     · obtain rfl:j=k:=by omega
       refine ((ha _).2.2 hn e1.symm).imp (fun hp=> ?_) id
       rw [←e2]
       exact hp
theorem scan_some {r:Rn} (h:r.hand<r.L.length) (hp:r.allPinned=false): ∃i,(r.scan (2*r.L.length)).2=some i:=by
 cases hn:(r.scan (2*r.L.length)).2 with
 |some i=>exact ⟨i,rfl⟩
 |none=>
   exfalso
   have hn0:0<r.L.length:=by omega
   obtain ⟨j,hj,hjp⟩: ∃j,j<r.L.length∧(r.at_ j).pinned=false:=by
     unfold Rn.allPinned at hp
     obtain ⟨p,hp1,hp2⟩:=List.all_eq_false.1 hp
     obtain ⟨j,hj⟩:=List.getElem?_of_mem hp1
     refine ⟨j,(List.getElem?_eq_some_iff.1 hj).1,?_⟩
     unfold Rn.at_
     rw [hj]
     simpa using hp2
   -- the place lies k steps ahead
   obtain ⟨k,hk,hkj⟩: ∃k,k<r.L.length∧(r.hand+k) %r.L.length=j:=by
     by_cases hc:r.hand≤j
     · exact ⟨j-r.hand,by omega,by rw [show r.hand+(j-r.hand)=j by omega,Nat.mod_eq_of_lt hj]⟩
     · exact ⟨r.L.length+j-r.hand,by omega,by rw [show r.hand+(r.L.length+j-r.hand)=j+r.L.length by omega,Nat.add_mod_right,Nat.mod_eq_of_lt hj]⟩
   have hnk:=scan_none_le (show r.L.length+k+1≤2*r.L.length by omega) hn
   have hnk0:=scan_none_le (show r.L.length+k≤r.L.length+k+1 by omega) hnk
   obtain ⟨e1,e2,e3,e4⟩:=scan_inv h _ hnk0
   have hs:=scan_snoc _ r hnk0
   rw [hs] at hnk
   have hhand:(r.scan (r.L.length+k)).1.hand=j:=by rw [e1,show r.hand+(r.L.length+k)=r.hand+k+r.L.length by omega,Nat.add_mod_right,hkj]
   have h4:=e4 k (by omega)
   rw [hkj,hjp] at h4
   have hm:((r.scan (r.L.length+k)).1.at_ j).marked=false:=by
     rcases h4 with h4|h4
     · cases h4
     · exact h4
   have hpp:((r.scan (r.L.length+k)).1.at_ j).pinned=false:=by rw [e2,hjp]
   unfold Rn.step at hnk
   rw [hhand,hpp,hm] at hnk
   simp at hnk
theorem scan_stop: ∀{j m:Nat} {r:Rn} {i:Nat},j≤m→(r.scan j).2=some i→r.scan m=r.scan j
 |0,m,r,i,_,h=>by cases h
 |j+1,0,r,i,hj,_=>absurd hj (by omega)
 |j+1,m+1,r,i,hj,h=>by
   rw [Rn.scan] at h ⊢
   conv=>rhs;rw [Rn.scan]
   rcases hs:r.step with ⟨r',_|q⟩
   · rw [hs] at h
     exact scan_stop (by omega) h
   · rfl
theorem free_none {r:Rn} (h: ∀j,j<r.L.length→(r.at_ j).used=true):r.free=none:=by
 unfold Rn.free
 rw [List.find?_eq_none]
 intro j hj
 rw [h j (List.mem_range.1 hj)]
 simp
theorem find_range {p:Nat→Bool}: ∀{n k:Nat},k<n→p k=true→(∀j,j<k→p j=false)→(List.range n).find? p=some k
 |0,k,h,_,_=>absurd h (Nat.not_lt_zero k)
 |n+1,k,h,hp,hn=>by
   rw [List.range_succ,List.find?_append]
   by_cases hk:k<n
   · rw [find_range hk hp hn]
     rfl
   · obtain rfl:k=n:=by omega
     have:(List.range k).find? p=none:=List.find?_eq_none.2 fun j hj=>by rw [hn j (List.mem_range.1 hj)];simp
     rw [this]
     simp [hp]
theorem free_some {r:Rn} {k:Nat} (hk:k<r.L.length) (h:(r.at_ k).used=false) (hn: ∀j,j<k→(r.at_ j).used=true):r.free=some k:=
 find_range hk (by rw [h];rfl) (fun j hj=>by rw [hn j hj];rfl)
end Go.Tn.Ck
