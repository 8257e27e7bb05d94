import Derived.Test.YtldimgchpgoggaaGreatMgKpt34
namespace Go.Proofs.YtldimgchpgoggaaGreat
open Go.RowKit Go.Tn Go.Tn.Bt Go.Tn.Lp Go.Tn.Dk Go.Tn.Ino Go.Tn.Slo Go.Tn.Ck Go.Tn.Pc
structure Shows (hs:List (List Nat)) (L:List Slt) (num:Nat):Prop where
 len:L.length+1≤hs.length
 num:hs[0]?=some (numSec num)
 at_: ∀(i:Nat) (x:Slt),L[i]?=some x→hs[1+i]?=some x.sec
theorem Shows.set {hs:List (List Nat)} {L:List Slt} {num:Nat} (h:Shows hs L num) {i:Nat} (hi:i<L.length) (x:Slt):Shows (hs.set (1+i) x.sec) (L.set i x) num:=by
 refine ⟨by rw [List.length_set,List.length_set];exact h.len,?_,fun j y hj=> ?_⟩
 · rw [List.getElem?_set,if_neg (by omega)]
   exact h.num
 · rw [List.getElem?_set] at hj ⊢
   by_cases hij:i=j
   · subst hij
     rw [if_pos rfl,if_pos hi] at hj
     cases hj
     rw [if_pos rfl,if_pos (by have:=h.len;omega)]
   · rw [if_neg hij] at hj
     rw [if_neg (by omega)]
     exact h.at_ j y hj
theorem Shows.renum {hs:List (List Nat)} {L:List Slt} {num:Nat} (h:Shows hs L num) (x:Nat):Shows (hs.set 0 (numSec x)) L x:=by
 refine ⟨by rw [List.length_set];exact h.len,?_,fun j y hj=> ?_⟩
 · rw [List.getElem?_set,if_pos rfl,if_pos (by have:=h.len;omega)]
 · rw [List.getElem?_set,if_neg (by omega)]
   exact h.at_ j y hj
theorem overB_cons (hs:List (List Nat)) (p:Pt) (ps:List Pt) {k:Nat} (h1:p.1=(k:Int)) (hk:k<hs.length):overB hs (p::ps)=overB (hs.set k p.2) ps:=by
 unfold overB
 rw [List.foldl_cons,if_pos (by omega),h1]
 rfl
theorem Shows.turns (T:Slt→Slt): ∀(is:List Nat) (hs:List (List Nat)) (c:PC) (num:Nat),Shows hs c.L num→(∀i∈is,i<c.L.length)→is.Nodup→Shows (overB hs (is.map fun i=>slotPut i (T (c.at_ i)))) (c.turns is T).L num
 | [],hs,c,num,h,_,_=>h
 |i::is,hs,c,num,h,hl,hn=>by
   have hi:=hl i (by simp)
   have hn':=List.nodup_cons.1 hn
   have e:c.turns (i::is) T=(c.lay i (T (c.at_ i))).turns is T:=rfl
   rw [e,List.map_cons,overB_cons hs _ _ (k:=1+i) (by show (1+(i:Int))=_;omega) (by have:=h.len;omega)]
   have hm:(is.map fun j=>slotPut j (T (c.at_ j)))=is.map fun j=>slotPut j (T ((c.lay i (T (c.at_ i))).at_ j)):=List.map_congr_left fun j hj=>by
     rw [lay_at' c i _ j (fun e=>hn'.1 (by rw [←e];exact hj))]
   rw [hm]
   refine Shows.turns T is _ _ num ?_ (fun j hj=>by rw [lay_len];exact hl j (by simp [hj])) hn'.2
   rw [lay_L]
   exact h.set hi _
theorem slots_trans {is:List Nat} {X:Nat→Slt} {homes:Nat} (h1:1≤is.length) (h2:is.length≤16) (hl: ∀i∈is,1+i<homes) (hx: ∀i∈is,(X i).is) (hn:is.Nodup):
   transB (is.map fun i=>slotPut i (X i)) homes=true∧cutN (recB (is.map fun i=>slotPut i (X i)))≤20:=by
 have hl128: ∀p∈is.map fun i=>slotPut i (X i),p.2.length=128:=fun p hp=>by
   obtain ⟨i,hi,rfl⟩:=List.mem_map.1 hp
   exact Slt.sec_len (hx i hi)
 constructor
 · refine (transB_iff _ _).2 ⟨by rw [List.length_map];exact h1,by rw [List.length_map];omega,fun p hp=> ?_,?_⟩
   · have h128:=hl128 p hp
     obtain ⟨i,hi,rfl⟩:=List.mem_map.1 hp
     refine ⟨?_,?_,h128⟩
     · show (0:Int)≤1+(i:Int)
       omega
     · have:=hl i hi
       show (1:Int)+(i:Int)<_
       omega
   · rw [List.map_map]
     refine List.pairwise_map.2 (hn.imp fun {a b} hab e=>hab ?_)
     have e:(1:Int)+(a:Int)=1+(b:Int):=e
     omega
 · have:=recB_len hl128
   rw [List.length_map] at this
   unfold cutN
   omega
theorem num_trans {x homes:Nat} (h:1≤homes):transB [((0:Int),numSec x)] homes=true∧cutN (recB [((0:Int),numSec x)])≤20:=by
 have hl128: ∀p∈ [((0:Int),numSec x)],p.2.length=128:=fun p hp=>by
   rw [List.mem_singleton.1 hp]
   exact numSec_len x
 constructor
 · refine (transB_iff _ _).2 ⟨by simp,by simp,fun p hp=> ?_,by simp⟩
   have h128:=hl128 p hp
   rw [List.mem_singleton.1 hp] at h128 ⊢
   exact ⟨Int.le_refl _,by show (0:Int)<_;omega,h128⟩
 · have:=recB_len hl128
   rw [List.length_singleton] at this
   unfold cutN
   omega
section
variable {n i j:Nat} {l:Lg} {d:Dsk}
theorem CLive.toFit (h:CLive n i l d) (hi:i≤900):Fit l d:=⟨h.ok (by omega),fun ps h8 h0=>(clive_check h (by omega)).2.1.ok (by omega),by have:=h.q;omega⟩
theorem clive_stWr (h:CLive n i l d) (hi:i≤900) {ps:List Pt} (hb: ∀p∈ps, ∀x∈p.2,x<256) (ht:transB ps (l.homes d)=true) (hN:cutN (recB ps)≤n):
   ∃l' d',stWr l d ps=(l',d',0)∧CLive n (i+2) l' d'∧homesB l' d'=overB (homesB l d) ps:=by
 by_cases hf:cutN (recB ps)≤l.free
 · obtain ⟨w0,w1,w2⟩:=clive_write h (by omega) hb ht hf
   refine ⟨(l.write d ps).1,(l.write d ps).2.1,?_,w1.mono (by omega),w2⟩
   unfold stWr
   rw [if_pos (by rw [w0];simp), ←w0]
 · have hep:=h.ep
   have hnx:=h.next
   have hc:=cut_ok (ep:=l.epoch) (ct:=l.next) ht (by omega) (by omega)
   have hw8:=write_full h.err ht hc (d:=d) (by rw [cutL_len];omega)
   obtain ⟨c0,c1,c2,c3⟩:=clive_check h (by omega)
   have hch:(l.check d).1.homes (l.check d).2.1=l.homes d:=by
     have:=congrArg List.length c2
     rwa [homesB_len,homesB_len] at this
   obtain ⟨w0,w1,w2⟩:=clive_write c1 (by omega) hb (by rw [hch];exact ht) (by rw [c3];exact hN)
   refine ⟨((l.check d).1.write (l.check d).2.1 ps).1,((l.check d).1.write (l.check d).2.1 ps).2.1,?_,w1,by rw [w2,c2]⟩
   unfold stWr
   rw [if_neg (by rw [hw8];simp),if_neg (by rw [c0];simp), ←w0]
end
structure PInv (i:Nat) (l:Lg) (d:Dsk) (P:PC):Prop where
 live:CLive 20 i l d
 shows:Shows (homesB l d) P.L P.num
 ok:P.Ok
 hand:P.R.hand<P.R.L.length
 slots:P.L.length≤12
 num:P.num≤1099511627775
section
variable {i j:Nat} {l:Lg} {d:Dsk} {P:PC}
theorem PInv.mono (h:PInv i l d P) (hij:i≤j):PInv j l d P:=⟨h.live.mono hij,h.shows,h.ok,h.hand,h.slots,h.num⟩
theorem PInv.fit (h:PInv i l d P) (hi:i≤900):Fit l d:=h.live.toFit hi
theorem PInv.homes (h:PInv i l d P):P.L.length+1≤l.homes d:=by have:=h.shows.len;rwa [homesB_len] at this
theorem PInv.ring (h:PInv i l d P) {r:Rn} (h1:({P with R:=r}:PC).Ok) (h2:r.hand<r.L.length):PInv i l d {P with R:=r}:=⟨h.live,h.shows,h1,h2,h.slots,h.num⟩
theorem PInv.stWr (h:PInv i l d P) (hi:i≤900) {is:List Nat} {X:Nat→Slt} (h1:1≤is.length) (hl: ∀i∈is,i<P.L.length) (hx: ∀i∈is,(X i).is) (hn:is.Nodup):
   ∃l' d',stWr l d (is.map fun i=>slotPut i (X i))=(l',d',0)∧CLive 20 (i+2) l' d'∧homesB l' d'=overB (homesB l d) (is.map fun i=>slotPut i (X i)):=by
 have hlen:is.length≤16:=by
   have h2:=nodup_len hn (List.nodup_range (n:=P.L.length)) fun i hi=>List.mem_range.2 (hl i hi)
   rw [List.length_range] at h2
   have:=h.slots
   omega
 have hho:=h.homes
 obtain ⟨t1,t2⟩:=slots_trans (homes:=l.homes d) h1 hlen (fun i hi=>by have:=hl i hi;omega) hx hn
 refine clive_stWr h.live hi (fun p hp x hxx=> ?_) t1 t2
 obtain ⟨k,_,rfl⟩:=List.mem_map.1 hp
 exact Slt.sec_lt _ x hxx
theorem PInv.turn (h:PInv i l d P) (hi:i≤900) {is:List Nat} {T:Slt→Slt} (hg: ∀i∈is,i<P.L.length∧SGood (P.at_ i) (T (P.at_ i))) (hn:is.Nodup): ∃l' d',P.turnD l d is T=(P.turns is T,(l',d',0))∧PInv (i+2) l' d' (P.turns is T):=by
 by_cases h0:is= []
 · subst h0
   refine ⟨l,d,?_,h.mono (by omega)⟩
   unfold PC.turnD
   rw [if_pos rfl]
   rfl
 · obtain ⟨l',d',e1,e2,e3⟩:=h.stWr hi (X:=fun i=>T (P.at_ i)) (List.length_pos_iff.2 h0) (fun i hi=>(hg i hi).1) (fun i hi=>(hg i hi).2.1) hn
   refine ⟨l',d',?_,⟨e2,?_,turns_ok T is P h.ok hg hn,?_,by rw [turns_len];exact h.slots,by rw [turns_num];exact h.num⟩⟩
   · unfold PC.turnD
     rw [if_neg h0,e1,if_pos rfl]
   · rw [e3,turns_num]
     exact Shows.turns T is _ P P.num h.shows (fun i hi=>(hg i hi).1) hn
   · rw [turns_hand,(turns_ok T is P h.ok hg hn).len,turns_len, ←h.ok.len]
     exact h.hand
theorem PInv.map (h:PInv i l d P) (hi:i≤900) {q:Slt→Bool} {is:List Nat} (hby:ByBlk P q is) {T:Slt→Slt} (hg: ∀i∈is,i<P.L.length∧SGood (P.at_ i) (T (P.at_ i))): ∃l' d',P.turnD l d is T=(P.map q T,(l',d',0))∧PInv (i+2) l' d' (P.map q T):=by
 rw [←map_of (T:=T) hby]
 exact h.turn hi hg hby.nodup
theorem PInv.put (h:PInv i l d P) (hi:i≤900) (x:Slt): ∃l' d',P.putD l d x=((P.put x).1,(l',d',(P.put x).2))∧PInv (i+2) l' d' (P.put x).1:=by
 have hpl:=place_ok h.ok h.hand x.blk
 have hok:=put_ok h.ok h.hand x
 by_cases hx:x.is∧x≠Slt.no
 · by_cases h0:(P.place x.blk).2.2=0
   · obtain ⟨p1,p2⟩:=place_set h.ok h.hand hx.1 h0
     have e1:P.put x=((P.place x.blk).1.set (P.place x.blk).2.1 x,0):=by
       unfold PC.put
       rw [if_neg (fun e=>e hx),if_neg (fun e=>e h0)]
     have e2:P.putD l d x=putAt (P.place x.blk).1 l d (P.place x.blk).2.1 x:=by
       unfold PC.putD
       rw [if_neg (fun e=>e hx),if_neg (fun e=>e h0)]
     rw [hpl.2.1] at p1
     obtain ⟨l',d',s1,s2,s3⟩:=h.stWr hi (is:= [(P.place x.blk).2.1]) (X:=fun _=>x) (Nat.le_refl _) (fun i hi=>by rw [List.mem_singleton.1 hi];exact p1) (fun _ _=>hx.1) (by simp)
     simp only [List.map_cons,List.map_nil] at s1 s3
     rw [e1] at hok ⊢
     refine ⟨l',d',?_,⟨s2,?_,hok.1,?_,?_,?_⟩⟩
     · rw [e2]
       unfold putAt
       rw [s1,if_pos rfl]
     · have hn:(((P.place x.blk).1.set (P.place x.blk).2.1 x,0):PC×Nat).1.num=P.num:=hok.2.2.1
       show Shows _ ((P.place x.blk).1.L.set _ x) _
       rw [hn,s3,hpl.2.1,overB_cons _ _ _ (k:=1+(P.place x.blk).2.1) (by show (1+((P.place x.blk).2.1:Int))=_;omega) (by have:=h.shows.len;omega)]
       exact h.shows.set p1 x
     · rw [hok.1.len,hok.2.1, ←h.ok.len]
       exact hok.2.2.2
     · rw [hok.2.1];exact h.slots
     · rw [hok.2.2.1];exact h.num
   · have e1:P.put x=((P.place x.blk).1,(P.place x.blk).2.2):=by
       unfold PC.put
       rw [if_neg (fun e=>e hx),if_pos h0]
     have e2:P.putD l d x=((P.place x.blk).1,(l,d,(P.place x.blk).2.2)):=by
       unfold PC.putD
       rw [if_neg (fun e=>e hx),if_pos h0]
     refine ⟨l,d,by rw [e1,e2],?_⟩
     rw [e1]
     rcases hpl.2.2.2.2.2 with ⟨-,e, -⟩|⟨e, -⟩
     · rw [e]
       exact h.mono (by omega)
     · exact absurd e h0
 · have e1:P.put x=(P,2):=by
     unfold PC.put
     rw [if_pos hx]
   have e2:P.putD l d x=(P,(l,d,2)):=by
     unfold PC.putD
     rw [if_pos hx]
   refine ⟨l,d,by rw [e1,e2],?_⟩
   rw [e1]
   exact h.mono (by omega)
def PC.drop (c:PC) (b:Blk):PC×Nat:=match c.find b with
 |none=>(c,11)
 |some i=>(c.set i Slt.no,0)
theorem PInv.drop (h:PInv i l d P) (hi:i≤900) (b:Blk): ∃l' d',P.dropD l d b=((PC.drop P b).1,(l',d',(PC.drop P b).2))∧PInv (i+2) l' d' (PC.drop P b).1:=by
 unfold PC.dropD PC.drop
 cases hf:P.find b with
 |none=>exact ⟨l,d,rfl,h.mono (by omega)⟩
 |some k=>
   obtain ⟨h1, -, -⟩:=(find_some h.ok).1 hf
   obtain ⟨l',d',e1,e2⟩:=h.turn hi (is:= [k]) (T:=tNo) (fun j hj=>by rw [List.mem_singleton.1 hj];exact ⟨h1,good_no _⟩) (by simp)
   have e:P.turns [k] tNo=P.set k Slt.no:=by
     show P.lay k Slt.no=_
     unfold PC.lay
     rw [if_pos rfl]
   rw [e] at e1 e2
   exact ⟨l',d',e1,e2⟩
theorem PInv.sync (h:PInv i l d P):cSync l d=(l,d.flush,0)∧PInv i l d.flush P:=by
 obtain ⟨s1,s2,s3⟩:=clive_sync h.live
 refine ⟨?_,⟨s2,by rw [s3];exact h.shows,h.ok,h.hand,h.slots,h.num⟩⟩
 unfold cSync
 rw [s1]
 simp only [h.live.err]
theorem PInv.setNum (h:PInv i l d P) (hi:i≤900) {x:Nat} (hx:x≤1099511627775): ∃l' d',P.setNumD l d x=({P with num:=x},(l',d',0))∧PInv (i+2) l' d' {P with num:=x}:=by
 obtain ⟨t1,t2⟩:=num_trans (x:=x) (homes:=l.homes d) (by have:=h.homes;omega)
 obtain ⟨l',d',e1,e2,e3⟩:=clive_stWr h.live hi (fun p hp y hy=>by rw [List.mem_singleton.1 hp] at hy;exact numSec_lt x y hy) t1 t2
 have hI:PInv (i+2) l' d' {P with num:=x}:=by
   refine ⟨e2,?_,⟨h.ok.len,h.ok.is,h.ok.uniq,h.ok.used⟩,h.hand,h.slots,hx⟩
   rw [e3,overB_cons _ _ _ (k:=0) rfl (by have:=h.shows.len;omega)]
   exact h.shows.renum x
 obtain ⟨s1,s2⟩:=hI.sync
 refine ⟨l',d'.flush,?_,s2⟩
 unfold PC.setNumD
 rw [e1]
 simp only
 rw [s1]
 simp
theorem PInv.get (h:PInv i l d P) (b:Blk):PInv i l d (P.get b).1:=by
 have hok:=h.ok.get b
 unfold PC.get at hok ⊢
 cases hf:P.find b with
 |none=>exact h
 |some k=>
   rw [hf] at hok
   refine h.ring hok ?_
   have e:(P.R.touch k).hand=P.R.hand:=by
     unfold Rn.touch
     split<;>rfl
   rw [e,touch_len]
   exact h.hand
theorem shows_home {l:Lg} {d:Dsk} {L:List Slt} {num:Nat} (h:Shows (homesB l d) L num):l.home d 0=numSec num∧ ∀i,i<L.length→l.home d (1+i)=((L[i]?).getD Slt.no).sec:=by
 have hg: ∀k,k<l.homes d→(homesB l d)[k]?=some (l.home d k):=fun k hk=>by
   unfold homesB
   rw [List.getElem?_map,List.getElem?_range hk]
   rfl
 have hl:=h.len
 rw [homesB_len] at hl
 refine ⟨?_,fun i hi=> ?_⟩
 · have:=h.num
   rw [hg 0 (by omega)] at this
   exact Option.some.inj this
 · have:=h.at_ i _ (List.getElem?_eq_getElem hi)
   rw [hg (1+i) (by omega)] at this
   rw [List.getElem?_eq_getElem hi]
   exact Option.some.inj this
theorem shows_new {n k slots:Nat} (h:slots+n+3≤k):Shows (homesB (log0 n 1 0 0) (newD k)) (List.replicate slots Slt.no) 0:=by
 have hho:(log0 n 1 0 0).homes (newD k)=k-2-n:=by
   unfold Lg.homes
   simp [newD,log0]
 have hg: ∀j,j<k-2-n→(homesB (log0 n 1 0 0) (newD k))[j]?=some zeroS:=fun j hj=>by
   unfold homesB
   rw [hho,List.getElem?_map,List.getElem?_range hj]
   show some ((newD k).get (2+n+j))=_
   rw [newd_get (by omega)]
 refine ⟨by rw [homesB_len,hho,List.length_replicate];omega,?_,fun j x hj=> ?_⟩
 · rw [hg 0 (by omega)]
   congr 1
 · have hjl:=(List.getElem?_eq_some_iff.1 hj).1
   rw [List.length_replicate] at hjl
   rw [List.getElem?_replicate,if_pos hjl] at hj
   cases hj
   rw [hg (1+j) (by omega),no_sec]
   rfl
theorem pinv_new {slots k:Nat} (h1:1≤slots) (h2:slots≤12) (h3:slots+23≤k) (h4:24≤k) (h5:k≤4096):PInv 0 (log0 20 1 0 0) (newD k) (PC.new slots 0):=by
 refine ⟨clive_init (by decide) (by omega) h5,?_,new_ok _ _,?_,by simp [PC.new];exact h2,Nat.zero_le _⟩
 · exact shows_new (by omega)
 · simp [PC.new]
   omega
theorem opened_new0 (n:Nat): ∀k,PC.opened (List.replicate n Slt.no) 0 k=PC.new n 0
 |0=>by unfold PC.opened;simp
 |k+1=>by
   rw [opened_succ,opened_new0 n k]
   have e:((List.replicate n Slt.no)[k]?).getD Slt.no=Slt.no:=by
     rw [List.getElem?_replicate]
     split<;>rfl
   rw [e]
   refine pc_ext ?_ ?_ rfl
   · show (List.replicate n Slt.no).set k Slt.no=List.replicate n Slt.no
     apply List.ext_getElem?
     intro j
     rw [List.getElem?_set,List.getElem?_replicate]
     split
     · rename_i hj
       subst hj
       rw [List.length_replicate]
     · rfl
   · show ringSet ⟨List.replicate n Pl.no,0⟩ k Slt.no=⟨List.replicate n Pl.no,0⟩
     unfold ringSet Rn.drop Rn.put
     rw [if_pos rfl]
     simp only
     congr 1
     apply List.ext_getElem?
     intro j
     rw [List.getElem?_set,List.getElem?_replicate]
     split
     · rename_i hj
       subst hj
       rw [List.length_replicate]
     · rfl
theorem opened_new (n:Nat):PC.opened (List.replicate n Slt.no) 0 n=PC.new n 0:=opened_new0 n n
end
structure PSt (w0:World) (I:Lg→Dsk→Prop) (c p:Nat) (P:PC) (G:Nat→Prop) (wi:World):Prop where
 ex: ∃A F FD l d,A.c=c∧A.p=p∧CAt wi F FD A l d P∧I l d∧ ∀b,A.all F FD b→G b
 lo: ∀b,G b→w0.heap.size≤b
 hi: ∀b,G b→b<wi.heap.size
 w:Below w0.heap.size w0 wi
def PTo (w0:World) (I:Lg→Dsk→Prop) (c p:Nat) (P:PC) (G:Nat→Prop) (w w':World):Prop:= ∃G',PSt w0 I c p P G' w'∧Mod G w w'∧ ∀b,G' b→G b∨w.heap.size≤b
section
variable {w0 w w' w'':World} {F FD G:Nat→Prop} {A:CA} {l l':Lg} {d d':Dsk} {P P':PC} {I I':Lg→Dsk→Prop} {c p i cd:Nat}
theorem PSt.below (h:PSt w0 I c p P G w) (hb:Below w.heap.size w w'):PSt w0 I c p P G w':=by
 obtain ⟨⟨A,F,FD,l,d,h1,h2,h3,h4,h5⟩,h6,h7,h8⟩:=h
 exact ⟨⟨A,F,FD,l,d,h1,h2,h3.below hb,h4,h5⟩,h6,fun b hb'=>Nat.lt_of_lt_of_le (h7 b hb') hb.size,h8.trans (hb.mono h8.size)⟩
theorem PSt.imp (h:PSt w0 I c p P G w) (hI: ∀l d,I l d→I' l d):PSt w0 I' c p P G w:=by
 obtain ⟨⟨A,F,FD,l,d,h1,h2,h3,h4,h5⟩,h6,h7,h8⟩:=h
 exact ⟨⟨A,F,FD,l,d,h1,h2,h3,hI _ _ h4,h5⟩,h6,h7,h8⟩
theorem PSt.here (h:PSt w0 I c p P G w):PTo w0 I c p P G w w:=⟨G,h,Mod.refl _ _,fun _ h=> .inl h⟩
theorem PTo.box (h:PTo w0 I c p P G w w') {x:Nat} {o:Obj} (hx:w.heap[x]?=some o) (hn:¬ G x):w'.heap[x]?=some o:=by
 obtain ⟨G', -,hm, -⟩:=h
 exact hm.heap hx hn
theorem PTo.st (h:PTo w0 I c p P G w w'): ∃G',PSt w0 I c p P G' w'∧(∀x,x<w.heap.size→¬ G x→¬ G' x)∧w.heap.size≤w'.heap.size∧Mod G w w':=by
 obtain ⟨G',h1,hm,h2⟩:=h
 exact ⟨G',h1,fun x hx hn hg=>(h2 x hg).elim hn fun h=>absurd hx (Nat.not_lt.2 h),hm.size,hm⟩
theorem st_of (hw:Below w0.heap.size w0 w) (hG: ∀b,A.all F FD b→G b) (hlo: ∀b,G b→w0.heap.size≤b) (hhi: ∀b,G b→b<w.heap.size) (hst:CSt w F FD A (P',(l',d',cd)) w') (hI:I l' d'):PTo w0 I A.c A.p P' G w w':=by
 obtain ⟨F',FD',k1,k2,k3,k4⟩:=hst
 have hs:=hw.size
 have hmG:Mod G w w':=k2.mono fun b _ h=>hG b h
 refine ⟨fun b=>A.all F' FD' b,⟨⟨A,F',FD',l',d',rfl,rfl,k1,hI,fun _ h=>h⟩,fun b hb=> ?_,fun b hb=>k1.lt b hb,hw.trans (hmG.below hw.size fun b hb hs=>absurd (hlo b hs) (Nat.not_le.2 hb))⟩,hmG,fun b hb=> ?_⟩
 · rcases hb with hb|hb|hb
   · exact hlo b (hG b (.inl hb))
   · rcases k3 b hb with h|h
     · exact hlo b (hG b (.inr (.inl h)))
     · omega
   · rcases k4 b hb with h|h
     · exact hlo b (hG b (.inr (.inr h)))
     · omega
 · rcases hb with hb|hb|hb
   · exact .inl (hG b (.inl hb))
   · rcases k3 b hb with h|h
     · exact .inl (hG b (.inr (.inl h)))
     · exact .inr h
   · rcases k4 b hb with h|h
     · exact .inl (hG b (.inr (.inr h)))
     · exact .inr h
theorem PSt.get (h:PSt w0 I c p P G w) (b:Blk):Calls Tryz.prog 11 #[.pointer (some ⟨c,0,none⟩), .agg (blC b)] w fun e w'=>e= .returned (.tuple #[.agg (slC (P.get b).2.1), .bool (P.get b).2.2])∧PTo w0 I c p (P.get b).1 G w w':=by
 obtain ⟨⟨A,F,FD,l,d,rfl,rfl,h3,h4,h5⟩,h6,h7,h8⟩:=h
 refine (pget_any h3 b).mono ?_
 rintro e w' ⟨he,hC,hm⟩
 exact ⟨he,st_of h8 h5 h6 h7 (cd:=0) ⟨F,FD,hC,hm.mono fun _ _ h=> .inl h,fun _ h=> .inl h,fun _ h=> .inl h⟩ h4⟩
theorem PSt.all (h:PSt w0 I c p P G w):Calls Tryz.prog 14 #[.pointer (some ⟨c,0,none⟩)] w fun e w'=>SomeR w P qAll e w':=by
 obtain ⟨⟨A,F,FD,l,d,rfl,rfl,h3, -⟩, -⟩:=h
 exact pall_any h3
theorem PSt.dirty (h:PSt w0 I c p P G w):Calls Tryz.prog 12 #[.pointer (some ⟨c,0,none⟩)] w fun e w'=>SomeR w P qDirty e w':=by
 obtain ⟨⟨A,F,FD,l,d,rfl,rfl,h3, -⟩, -⟩:=h
 exact pdirty_any h3
theorem PSt.of (h:PSt w0 I c p P G w) (f:Int×Int):Calls Tryz.prog 25 #[.pointer (some ⟨c,0,none⟩), .agg #[.int .i64 f.1, .int .i64 f.2]] w fun e w'=>SomeR w P (qFile f) e w':=by
 obtain ⟨⟨A,F,FD,l,d,rfl,rfl,h3, -⟩, -⟩:=h
 exact pof_any h3 f
theorem PSt.number (h:PSt w0 I c p P G w):Calls Tryz.prog 35 #[.pointer (some ⟨c,0,none⟩)] w fun e w'=>e= .returned (.int .u64 (P.num:Nat))∧w'=w:=by
 obtain ⟨⟨A,F,FD,l,d,rfl,rfl,h3, -⟩, -⟩:=h
 exact pnumber_any h3
abbrev PQ (w0:World) (i c p:Nat) (P:PC) (G:Nat→Prop) (wi:World):Prop:=PSt w0 (fun l d=>PInv i l d P) c p P G wi
abbrev PQT (w0:World) (i c p:Nat) (P:PC) (G:Nat→Prop) (w w':World):Prop:=PTo w0 (fun l d=>PInv i l d P) c p P G w w'
theorem PTo.imp (h:PTo w0 I c p P G w w') (hI: ∀l d,I l d→I' l d):PTo w0 I' c p P G w w':=by
 obtain ⟨G',h1,h2⟩:=h
 exact ⟨G',h1.imp hI,h2⟩
theorem PSt.ok (h:PSt w0 I c p P G w):P.Ok∧P.R.hand<P.R.L.length:=by
 obtain ⟨⟨A,F,FD,l,d,rfl,rfl,h3, -⟩, -⟩:=h
 exact ⟨h3.ok,h3.ring.hand⟩
theorem PSt.getQ (h:PQ w0 i c p P G w) (b:Blk):Calls Tryz.prog 11 #[.pointer (some ⟨c,0,none⟩), .agg (blC b)] w fun e w'=>e= .returned (.tuple #[.agg (slC (P.get b).2.1), .bool (P.get b).2.2])∧PQT w0 i c p (P.get b).1 G w w':=
 (PSt.get h b).mono fun _ _ ⟨h1,h2⟩=>⟨h1,h2.imp fun _ _ h=>h.get b⟩
theorem PSt.putQ (h:PQ w0 i c p P G w) (hi:i≤900) (x:Slt) (h64:Slt.w64 x) (hmx:x.data.size≤maxLen):Calls Tryz.prog 29 #[.pointer (some ⟨c,0,none⟩), .agg (slC x)] w fun e w'=>e= .returned (.int .i64 ((P.put x).2:Nat))∧PQT w0 (i+2) c p (P.put x).1 G w w':=by
 obtain ⟨⟨A,F,FD,l,d,rfl,rfl,h3,h4,h5⟩,h6,h7,h8⟩:=h
 obtain ⟨l',d',e1,e2⟩:=h4.put hi x
 refine (pput_any h3 (h4.fit hi) x h64 hmx).mono ?_
 rintro e w' ⟨he,hst⟩
 rw [e1] at he hst
 exact ⟨he,st_of h8 h5 h6 h7 hst e2⟩
theorem PSt.retag_no (h:PSt w0 I c p P G w) (f:Int×Int) (v:Nat) (hv:¬ v≤1099511627775) (h64:v<18446744073709551616):Calls Tryz.prog 32 #[.pointer (some ⟨c,0,none⟩), .agg #[.int .i64 f.1, .int .i64 f.2], .int .u64 (v:Nat)] w fun e w'=>e= .returned (.int .i64 2)∧Below w.heap.size w w':=by
 have hh:=h
 obtain ⟨⟨A,F,FD,l,d,rfl,rfl,h3,h4,h5⟩,h6,h7,h8⟩:=h
 exact (pretag_arg h3 f v hv h64).mono fun e w' ⟨he,hb⟩=>⟨he,hb⟩
theorem PSt.setNumberQ (h:PQ w0 i c p P G w) (hi:i≤900) (x:Nat) (hx:x≤1099511627775):Calls Tryz.prog 33 #[.pointer (some ⟨c,0,none⟩), .int .u64 (x:Nat)] w fun e w'=>e= .returned (.int .i64 0)∧PQT w0 (i+2) c p {P with num:=x} G w w':=by
 obtain ⟨⟨A,F,FD,l,d,rfl,rfl,h3,h4,h5⟩,h6,h7,h8⟩:=h
 obtain ⟨l',d',e1,e2⟩:=h4.setNum hi hx
 refine (psetNumber_any h3 (h4.fit hi) x hx).mono ?_
 rintro e w' ⟨he,hst⟩
 rw [e1] at he hst
 exact ⟨he,st_of h8 h5 h6 h7 hst e2⟩
theorem PSt.setNumber_no (h:PSt w0 I c p P G w) (x:Nat) (hx:¬ x≤1099511627775) (h64:x<18446744073709551616):Calls Tryz.prog 33 #[.pointer (some ⟨c,0,none⟩), .int .u64 (x:Nat)] w fun e w'=>e= .returned (.int .i64 2)∧w'=w:=by
 obtain ⟨⟨A,F,FD,l,d,rfl,rfl,h3, -⟩, -⟩:=h
 exact psetNumber_arg h3 x hx h64
theorem popen_quiet {p:Nat} (hd:DAt w FD p d) (hFD: ∀b,FD b→w0.heap.size≤b) (hw:Below w0.heap.size w0 w) (hI:PInv i l d P) (hl:openB d 20=some l) (hf:newestB d 22<16777215) (hi:i≤900) (h1:1≤P.L.length) (hsz:P.L.length+23≤d.L.length):
   Calls Tryz.prog 10 #[.pointer (some ⟨p,0,none⟩), .int .i64 20, .int .i64 P.L.length] w fun e w'=> ∃c G,e= .returned (.tuple #[.pointer (some ⟨c,0,none⟩), .int .i64 0])∧PQ w0 i c p (PC.opened P.L P.num P.L.length) G w'∧Below w.heap.size w w'∧ ∀b,G b→FD b∨w.heap.size≤b:=by
 obtain ⟨s1,s2⟩:=shows_home hI.shows
 have hop2:=popen_any hd 20 P.L P.num (by decide) (by decide) h1 (by have:=hI.slots;omega) (by omega) hf hl (hI.live.ok (by omega)) hI.live.rn (Lays.of hI.ok) hI.num s1 s2
 refine hop2.mono ?_
 rintro e w' ⟨A,F,he,hC,hp,hb,hF,hown⟩
 have hI2:PInv i l d (PC.opened P.L P.num P.L.length):=by
   refine ⟨hI.live,?_,hC.ok,hC.ring.hand,?_,?_⟩
   · rw [opened_L,opened_num]
     exact hI.shows
   · rw [opened_len]
     exact hI.slots
   · rw [opened_num]
     exact hI.num
 refine ⟨A.c,fun b=>A.all F FD b,he,⟨⟨A,F,FD,l,d,rfl,hp,hC,hI2,fun _ h=>h⟩,fun b hb=> ?_,fun b hb=>hC.lt b hb,hw.trans (hb.mono hw.size)⟩,hb,fun b hb=> ?_⟩
 · have hs:=hw.size
   rcases hb with hb|hb|hb
   · have:=hown b hb;omega
   · have:=hF b hb;omega
   · exact hFD b hb
 · rcases hb with hb|hb|hb
   · exact .inr (hown b hb)
   · exact .inr (hF b hb)
   · exact .inl hb
end
theorem popen_new {w0 w:World} {FD:Nat→Prop} {p k n:Nat} (hd:DAt w FD p (newD k)) (hFD: ∀b,FD b→w0.heap.size≤b) (hw:Below w0.heap.size w0 w) (h1:1≤n) (h2:n≤12) (h3:n+23≤k) (h5:k≤4096):
   Calls Tryz.prog 10 #[.pointer (some ⟨p,0,none⟩), .int .i64 20, .int .i64 n] w fun e w'=> ∃c G,e= .returned (.tuple #[.pointer (some ⟨c,0,none⟩), .int .i64 0])∧PQ w0 0 c p (PC.new n 0) G w'∧Below w.heap.size w w'∧ ∀b,G b→FD b∨w.heap.size≤b:=by
 have hL:(newD k).L.length=k:=by simp [newD]
 have hlen:(PC.new n 0).L.length=n:=by simp [PC.new]
 have:=popen_quiet hd hFD hw (pinv_new h1 h2 h3 (by omega) h5) (open_new (by decide) (by omega)) (by rw [newest_zero _ _ (by omega)];decide) (by decide) (by rw [hlen];exact h1) (by rw [hlen,hL];exact h3)
 rw [hlen] at this
 have e:PC.opened (PC.new n 0).L (PC.new n 0).num n=PC.new n 0:=opened_new n
 rw [e] at this
 exact this
def liveB:Blk:=(2,1,1)
def liveX:Slt:=⟨true,liveB,0,false,{data:= #[120]}⟩
def liveP1:PC:=(PC.new 2 0).set 0 liveX
def liveP2:PC:={liveP1 with num:=5}
theorem liveX_is:liveX.is∧liveX≠Slt.no:=by decide
theorem live_put:(PC.new 2 0).put liveX=(liveP1,0):=by
 have h:(PC.new 2 0).place liveX.blk=(PC.new 2 0,0,0):=rfl
 unfold PC.put
 rw [if_neg (fun e=>e liveX_is),h,if_neg (fun e=>e rfl)]
 rfl
def liveP3:PC:=(liveP2.get liveB).1
theorem live_get:liveP2.get liveB=(liveP3,liveX,true):=rfl
theorem live_L:liveP3.L= [liveX,Slt.no]:=rfl
theorem live_all {xs:List Slt} (h:SBy (liveP3.has qAll) xs):xs.length=1:=by
 have h2:SBy (liveP3.has qAll) [liveX]:=by
   refine ⟨fun x=> ?_,by simp⟩
   unfold PC.has
   rw [live_L]
   simp only [List.mem_cons,List.not_mem_nil,or_false]
   constructor
   · rintro rfl
     exact ⟨.inl rfl,rfl,rfl⟩
   · rintro ⟨rfl|rfl,h1, -⟩
     · rfl
     · cases h1
 rw [h.uniq h2]
 rfl
theorem built_live:Tryz.prog.built 42 [(0, .bool true),(1, .agg #[.int .i64 2, .int .i64 1, .int .i64 1]),(4, .string {data:= #[120]})]=some (slC liveX):=by kernel_rfl
set_option maxRecDepth 20000 in
set_option maxHeartbeats 4000000 in
theorem lives_any (w:World):Calls Tryz.prog 16 #[] w fun e w'=>e= .returned (.bool true)∧Below w.heap.size w w':=by
 have hnw:=newd_any w 30 (by decide) (by decide)
 rw [show ((30:Nat):Int)=30 from rfl] at hnw
 have hbl:=built_live
 have hbb:Tryz.prog.built 35 [(0, .agg #[.int .i64 2, .int .i64 1]),(1, .int .i64 1)]=some #[.int .i64 2, .int .i64 1, .int .i64 1]:=by kernel_rfl
 have hbf:Tryz.prog.built 33 [(0, .int .i64 2),(1, .int .i64 1)]=some #[.int .i64 2, .int .i64 1]:=by kernel_rfl
 go_enter Tryz.func16,Tryz.ntmps16
 go_wp2_with fail
 refine hnw.mono ?_
 rintro e w1 ⟨p,FD,rfl,hD,hb1,hF⟩
 have hop:=popen_new (w0:=w) (n:=2) hD (fun b hb=>hF b hb) hb1 (by decide) (by decide) (by decide) (by decide)
 rw [show ((2:Nat):Int)=2 from rfl] at hop
 clear hnw hD hb1 hF
 go_wp2_with fail
 refine hop.mono ?_
 rintro e w2 ⟨c,G,rfl,hQ2, -, -⟩
 obtain ⟨w3,hw3⟩: ∃w3,w2.alloc (.cells (blC liveB) 35)=w3:=⟨_,rfl⟩
 have hb3:Below w2.heap.size w2 w3:=by rw [←hw3];exact (Below.refl _ _).alloc (Nat.le_refl _) _
 have hB3:w3.heap[w2.heap.size]?=some (.cells (blC liveB) 35 (0,0)):=by rw [←hw3];exact heap_alloc_at
 have hQ3:=hQ2.below hb3
 have hagb:=aggBl liveB
 have honb:(blC liveB).all (·.oneCell')=true:=by simp [Value.oneCell']
 have hLb:=lies_of hB3
 have hnG:¬ G w2.heap.size:=fun h=>absurd (hQ2.hi _ h) (Nat.lt_irrefl _)
 have HB3:=Lib.hid hB3
 clear hop hQ2 hb3
 go_upto_region 4 with (first
   |((with_reducible refine wpList_exec rfl (exec_buildA (vals:= [(0, .int .i64 2),(1, .int .i64 1)]) ?_ hbf) ?_);rfl;go_frame)
   |((with_reducible refine wpList_exec rfl (exec_buildA (vals:= [(0, .agg #[.int .i64 2, .int .i64 1]),(1, .int .i64 1)]) ?_ hbb) ?_);rfl;go_frame)
   |((with_reducible refine wpList_storeA_new (cs:=blC liveB) hagb ?_ honb ?_ ?_ ?_);rfl;rfl;rfl;go_frame)
   |fail)
 simp only [hw3] at*
 clear hw3
 have hpu:=hQ3.putQ (by decide) liveX (is_w64 liveX_is.1).1 (is_w64 liveX_is.1).2
 rw [live_put] at hpu
 have hpu:Calls Tryz.prog 29 #[.pointer (some ⟨c,0,none⟩), .agg (slC liveX)] w3 fun e w'=>e= .returned (.int .i64 0)∧PQT w 2 c p liveP1 G w3 w':=hpu
 clear hQ3
 go_wp2_with (first
   |((with_reducible refine wpList_execW (exec_loadA hagb ?_ hLb) ?_ ?_);rfl;(first|rfl|(go_simp;done));go_frame)
   |((with_reducible refine wpList_execW (exec_buildA (vals:= [(0, .bool true),(1, .agg #[.int .i64 2, .int .i64 1, .int .i64 1]),(4, .string {data:= #[120]})]) ?_ hbl) ?_ ?_);rfl;(first|rfl|(go_simp;done));go_frame)
   |fail)
 refine hpu.mono ?_
 rintro e w4 ⟨rfl,hT4⟩
 have hB4:=hT4.box HB3.out hnG
 obtain ⟨G4,hQ4,hn4, -, -⟩:=hT4.st
 have hnG4:=hn4 _ (lt_of_block HB3.out) hnG
 have hsn:=hQ4.setNumberQ (by decide) 5 (by decide)
 rw [show ((5:Nat):Int)=5 from rfl] at hsn
 have HB4:=Lib.hid hB4
 clear hpu hQ4 hLb hT4 hn4 hnG hB4 HB3
 go_wp2_with fail
 refine hsn.mono ?_
 rintro e w5 ⟨rfl,hT5⟩
 have hB5:=hT5.box HB4.out hnG4
 obtain ⟨G5,hQ5, -, -, -⟩:=hT5.st
 have hQ5:PQ w 4 c p liveP2 G5 w5:=hQ5
 have hge:=hQ5.getQ liveB
 rw [live_get] at hge
 have hge:Calls Tryz.prog 11 #[.pointer (some ⟨c,0,none⟩), .agg (blC liveB)] w5 fun e w'=>e= .returned (.tuple #[.agg (slC liveX), .bool true])∧PQT w 4 c p liveP3 G5 w5 w':=hge
 have hLb:=lies_of hB5
 clear hsn hT5 hB5 hQ5 hnG4 HB4
 go_wp2_with (first
   |((with_reducible refine wpList_loadA hagb hLb ?_ ?_);rfl;go_frame)
   |fail)
 refine hge.mono ?_
 rintro e w6 ⟨rfl,hT6⟩
 obtain ⟨G6,hQ6, -, -, -⟩:=hT6.st
 have hagx:=aggSl liveX
 have honx:=oneSl liveX
 have hx7:(w6.alloc (.cells (slC liveX) 42)).heap[w6.heap.size]?=some (.cells (slC liveX) 42 (0,0)):=heap_alloc_at
 have hQ7:=hQ6.below (w':=w6.alloc (.cells (slC liveX) 42)) ((Below.refl _ _).alloc (Nat.le_refl _) _)
 have q6:(w6.alloc (.cells (slC liveX) 42)).cell? ⟨w6.heap.size,6,none⟩=some (.string {data:= #[120]}):=cell_of hx7 rfl
 have hnu:=hQ7.number
 have hnu:Calls Tryz.prog 35 #[.pointer (some ⟨c,0,none⟩)] (w6.alloc (.cells (slC liveX) 42)) fun e w'=>e= .returned (.int .u64 5)∧w'=w6.alloc (.cells (slC liveX) 42):=hnu
 have hal:=hQ7.all
 have HW7:=Lib.hid hQ7.w
 clear hge hT6 hQ6 hx7 hQ7 hLb
 go_upto_region 7 with (first
   |((with_reducible refine wpList_storeA_new hagx ?_ honx ?_ ?_ ?_);rfl;rfl;rfl;go_frame)
   |fail)
 generalize hw7:w6.alloc (.cells (slC liveX) 42)=w7 at*
 clear hw7
 go_wp2_with (first
   |(go_at_call 35;refine hnu.mono ?_;rintro e wt ⟨rfl,hw⟩;obtain rfl:=hw.symm;clear hw)
   |fail)
 refine hal.mono ?_
 rintro e w8 ⟨v,is,rfl,h1, -,h3,h4⟩
 have hx1:=live_all h1.slots
 obtain ⟨ao,cap,hv, -⟩:=h3.sl elSl.len
 rw [hx1] at hv
 subst hv
 have HB8:=Lib.hid (HW7.out.trans (h4.mono HW7.out.size))
 clear hal hnu h1 h3 h4 hx1
 go_wp2
 go_ret
 exact ⟨rfl,HB8.out⟩
def NoC (w:World) (a:Option Addr):Prop:= ∀w',Below w.heap.size w w'→Calls Tryz.prog 45 #[.pointer a] w' fun e w''=>e= .returned (.bool false)∧w''=w'
theorem NoC.below {w w':World} {a:Option Addr} (h:NoC w a) (hb:Below w.heap.size w w'):NoC w' a:=fun w2 h2=>h w2 (hb.trans (h2.mono hb.size))
section
variable {w:World} {a:Option Addr}
end
theorem aggXs (x:Slt):AggT Tryz.prog 38 (slC x).size:=⟨⟨_,Tryz.underlying38,rfl⟩,by kernel_rfl⟩
theorem built_slt (u:Bool) (i g a v:Int) (dy:Bool) (s:ByteArray):Tryz.prog.built 42 [(0, .bool u),(1, .agg #[.int .i64 i, .int .i64 g, .int .i64 a]),(2, .int .u64 v),(3, .bool dy),(4, .string s)]=some #[.bool u, .int .i64 i, .int .i64 g, .int .i64 a, .int .u64 v, .bool dy, .string s]:=by kernel_rfl
theorem built_xlt (u:Bool) (i g a v:Int) (dy:Bool) (s:ByteArray):Tryz.prog.built 38 [(0, .bool u),(1, .agg #[.int .i64 i, .int .i64 g, .int .i64 a]),(2, .int .u64 v),(3, .bool dy),(4, .string s)]=some #[.bool u, .int .i64 i, .int .i64 g, .int .i64 a, .int .u64 v, .bool dy, .string s]:=by kernel_rfl
theorem slC_blk {w:World} {b:Nat} {x:Slt} {T:TypeId} (h:w.heap[b]?=some (.cells (slC x) T (0,0))):Lies w b 1 (blC x.blk):=fun j hj=>by
 match j,hj with
 |0,_=>exact cell_of h rfl
 |1,_=>exact cell_of h rfl
 |2,_=>exact cell_of h rfl
set_option maxRecDepth 20000 in
set_option maxHeartbeats 2000000 in
theorem mine_any (w:World) (x:Slt):Calls Tryz.prog 19 #[.agg (slC x)] w fun e w'=>e= .returned (.agg (slC x))∧Below w.heap.size w w':=by
 obtain ⟨w1,hw1⟩: ∃w1,(w.alloc (.cells (slC x) 38)).alloc (.cells #[.bool false, .int .i64 0, .int .i64 0, .int .i64 0, .int .u64 0, .bool false, .string {data:= #[]}] 42)=w1:=⟨_,rfl⟩
 have hb0:Below w.heap.size w (w.alloc (.cells (slC x) 38)):=(Below.refl _ _).alloc (Nat.le_refl _) _
 have hb1:Below w.heap.size w w1:=by rw [←hw1];exact hb0.alloc (by simp) _
 have hX:w1.heap[w.heap.size]?=some (.cells (slC x) 38 (0,0)):=by rw [←hw1];exact heap_alloc_of heap_alloc_at
 have hZ:w1.heap[w.heap.size+1]?=some (.cells (slC Slt.no) 42 (0,0)):=by
   rw [←hw1]
   have:=heap_alloc_at (w:=w.alloc (.cells (slC x) 38)) (o:= .cells #[.bool false, .int .i64 0, .int .i64 0, .int .i64 0, .int .u64 0, .bool false, .string {data:= #[]}] 42)
   rw [World.size_alloc] at this
   exact this
 have hLb:=slC_blk hX
 have hagb:=aggBl x.blk
 have hagx:=aggSl x
 have honx:=oneSl x
 have q0:w1.cell? ⟨w.heap.size,0,none⟩=some (.bool x.used):=cell_of hX rfl
 have q4:w1.cell? ⟨w.heap.size,4,none⟩=some (.int .u64 (x.ver:Nat)):=cell_of hX rfl
 have q5:w1.cell? ⟨w.heap.size,5,none⟩=some (.bool x.dirty):=cell_of hX rfl
 have q6:w1.cell? ⟨w.heap.size,6,none⟩=some (.string x.data):=cell_of hX rfl
 have hbn:=built_slt x.used x.blk.1 x.blk.2.1 x.blk.2.2 (x.ver:Nat) x.dirty x.data
 have HB1:=Lib.hid hb1
 clear hb0 hb1 hX
 go_enter Tryz.func19,Tryz.ntmps19
 go_upto_region 1 with fail
 simp only [hw1] at*
 clear hw1
 go_wp2_with (first
   |((with_reducible refine wpList_loadA hagb hLb ?_ ?_);rfl;go_frame)
   |((with_reducible refine wpList_exec rfl (exec_buildA (vals:= [(0, .bool x.used),(1, .agg (blC x.blk)),(2, .int .u64 (x.ver:Nat)),(3, .bool x.dirty),(4, .string x.data)]) ?_ hbn) ?_);rfl;go_frame)
   |((with_reducible refine wpList_storeB (cs:=slC x) hagx ?_ ?_ hZ rfl honx ?_);rfl;rfl;(intro w9 hh9 hm9;have HH9:=Lib.hid hh9;have HM9:=Lib.hid hm9;clear hh9 hm9);go_frame)
   |fail)
 refine bodyPost_ret (results_cellA rfl _ rfl hagx (lies_of HH9.out)) rfl ?_
 exact ⟨rfl,HB1.out.trans (HM9.out.below HB1.out.size fun y hy e=>by have e:y=w.heap.size+1:=e;omega)⟩
theorem short_any (w:World) (s:ByteArray) (n:Nat) (hs:s.size≤maxLen) (hn:n≤1000):Calls Tryz.prog 27 #[.string s, .int .i64 n] w fun e w'=> ∃t,e= .returned (.string t)∧t.size≤n∧w'=w:=by
 unfold maxLen at hs
 by_cases h:n<s.size
 · have h':(n:Int)<(s.size:Int):=by omega
   go_enter Tryz.func27,Tryz.ntmps27
   go_wp2
   go_ret
   refine ⟨_,rfl,?_,rfl⟩
   simp
   omega
 · have h':(s.size:Int)≤(n:Int):=by omega
   go_enter Tryz.func27,Tryz.ntmps27
   go_wp2
   go_ret
   exact ⟨_,rfl,by omega,rfl⟩
def within (x lo hi:Int):Int:=if x<lo then lo else if hi<x then hi else x
theorem within_any (w:World) (x a b:Int):Calls Tryz.prog 7 #[.int .i64 x, .int .i64 a, .int .i64 b] w fun e w'=>e= .returned (.int .i64 (within x a b))∧w'=w:=by
 unfold within
 by_cases h1:x<a
 · have hd1:decide (x<a)=true:=by simp [h1]
   rw [if_pos h1]
   go_enter Tryz.func7,Tryz.ntmps7
   go_wp2
   go_ret
   exact ⟨rfl,rfl⟩
 · have hd1:decide (x<a)=false:=by simp;omega
   rw [if_neg h1]
   by_cases h2:b<x
   · have hd2:decide (b<x)=true:=by simp [h2]
     rw [if_pos h2]
     go_enter Tryz.func7,Tryz.ntmps7
     go_wp2
     go_ret
     exact ⟨rfl,rfl⟩
   · have hd2:decide (b<x)=false:=by simp;omega
     rw [if_neg h2]
     go_enter Tryz.func7,Tryz.ntmps7
     go_wp2
     go_ret
     exact ⟨rfl,rfl⟩
section
variable {w:World} {FD:Nat→Prop} {p k:Nat}
def rightO (k n s:Int):Prop:=20≤n∧n≤k-4∧1≤s∧s≤64∧s≤k-n-3
instance (k n s:Int):Decidable (rightO k n s):=by unfold rightO;infer_instance
end
end Go.Proofs.YtldimgchpgoggaaGreat
