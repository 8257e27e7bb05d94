import Derived.Test.YtldimgchpgoggaaGreatMgKpt41
import Derived.Test.YtldimgchpgoggaaGreatMgKpt25
import Derived.Test.YtldimgchpgoggaaGreatMgKpt5
namespace Go.Proofs.YtldimgchpgoggaaGreat
open Go.RowKit Go.Tn Go.Tn.Bt Go.Tn.Lp Go.Tn.Dk Go.Tn.Ino Go.Tn.Slo Go.Tn.Ck Go.Tn.Pc
theorem stWr_Q (l:Lg) {d:Dsk} (ps:List Pt) (hd:d.L.length≤4096):(stWr l d ps).2.1.Q.length≤d.Q.length+15000∧(stWr l d ps).2.1.L.length=d.L.length:=by
 obtain ⟨a1,a2⟩:=lwrite_Q (l:=l) (d:=d) (ps:=ps)
 obtain ⟨b1,b2⟩:=lcheck_Q (l:=l) hd
 obtain ⟨c1,c2⟩:=lwrite_Q (l:=(l.check d).1) (d:=(l.check d).2.1) (ps:=ps)
 unfold stWr
 split
 · exact ⟨by omega,a2⟩
 · split
   · exact ⟨by omega,b2⟩
   · exact ⟨by omega,c2.trans b2⟩
def PStep (i n:Nat) (T:List PC) (want:PC×Nat) (r:PC×(Lg×Dsk×Nat)):Prop:=
 (r.2.2.2=want.2∧r.1=want.1∧r.2.2.1.off=false∧PMode (i+2) n r.2.1 r.2.2.1 r.1 (T++ [want.1]))∨(r.2.2.2=7∧r.2.2.1.off=true∧PMode (i+2) n r.2.1 r.2.2.1 r.1 (T++ [want.1]))
section
variable {i n:Nat} {l:Lg} {d:Dsk} {P P1 P2:PC} {T:List PC}
theorem PMode.live (h:PMode i n l d P T) (hon:d.off=false): ∃S,KLive 20 i l d S∧(∀s∈S, ∃Q∈T,Shows s Q.L Q.num)∧Shows (homesB l d) P.L P.num∧T.getLast?=some P:=by
 rcases h.mode with h|⟨S,h1, -⟩
 · exact h
 · have:=h1.off
   rw [hon] at this
   cases this
theorem PMode.same (h:PMode i n l d P T) (hon:d.off=false) (hg:PGood n P2) (hL:P2.L=P.L) (hN:P2.num=P.num) (cd:Nat):PStep i n T (P2,cd) (P2,(l,d,cd)):=by
 obtain ⟨S,h1,h2,h3,h4⟩:=h.live hon
 refine .inl ⟨rfl,rfl,hon,⟨.inl ⟨S,h1.mono (by omega),fun s hs=> ?_,by show Shows _ P2.L P2.num;rw [hL,hN];exact h3,by simp⟩,hg,fun Q hQ=> ?_,h.dl,h.lo,h.hi⟩⟩
 · obtain ⟨Q,q1,q2⟩:=h2 s hs
   exact ⟨Q,List.mem_append.2 (.inl q1),q2⟩
 · rcases List.mem_append.1 hQ with hQ|hQ
   · exact h.good Q hQ
   · rw [List.mem_singleton.1 hQ]
     exact hg
theorem PMode.wr (h:PMode i n l d P T) (hon:d.off=false) (hi:i≤900) (hQ:d.Q.length≤900000000) {ps:List Pt} (ht:transB ps (l.homes d)=true) (hb: ∀p∈ps, ∀x∈p.2,x<256) (hN:cutN (recB ps)≤20) (hg1:PGood n P1) (hg:PGood n P2) (hs:Shows (overB (homesB l d) ps) P2.L P2.num):
   PStep i n T (P2,0) (if (stWr l d ps).2.2=0 then P2 else P1,stWr l d ps):=by
 obtain ⟨S,h1,h2,h3,h4⟩:=h.live hon
 have hlen:=(stWr_Q l ps (d:=d) (by rw [h.dl];have:=h.hi;omega)).2
 have hS2: ∀s,s∈S∨s=overB (homesB l d) ps→ ∃Q∈T++ [P2],Shows s Q.L Q.num:=fun s hs'=>by
   rcases hs' with hs'|rfl
   · obtain ⟨Q,q1,q2⟩:=h2 s hs'
     exact ⟨Q,List.mem_append.2 (.inl q1),q2⟩
   · exact ⟨P2,by simp,hs⟩
 have hgood: ∀Q∈T++ [P2],PGood n Q:=fun Q hQ=>by
   rcases List.mem_append.1 hQ with hQ|hQ
   · exact h.good Q hQ
   · rw [List.mem_singleton.1 hQ]
     exact hg
 rcases (kstWr h1 hi ht hb hN hQ).1 with ⟨w0,S2,w1,w2,w3⟩|⟨w0,S2,w1,w3⟩
 · refine .inl ⟨w0,if_pos w0,w1.on,?_⟩
   show PMode (i+2) n (stWr l d ps).1 (stWr l d ps).2.1 (if (stWr l d ps).2.2=0 then P2 else P1) (T++ [P2])
   rw [if_pos w0]
   exact ⟨.inl ⟨S2,w1,fun s hs'=>hS2 s (w3 s hs'),by rw [w2];exact hs,by simp⟩,hg,hgood,by rw [hlen,h.dl],h.lo,h.hi⟩
 · refine .inr ⟨w0,w1.off,?_⟩
   show PMode (i+2) n (stWr l d ps).1 (stWr l d ps).2.1 (if (stWr l d ps).2.2=0 then P2 else P1) (T++ [P2])
   rw [if_neg (by rw [w0];decide)]
   exact ⟨.inr ⟨S2,w1,fun s hs'=>hS2 s (w3 s hs')⟩,hg1,hgood,by rw [hlen,h.dl],h.lo,h.hi⟩
theorem PMode.homes (h:PMode i n l d P T) (hon:d.off=false):P.L.length+1≤l.homes d:=by
 obtain ⟨S,h1,h2,h3,h4⟩:=h.live hon
 have:=h3.len
 rwa [homesB_len] at this
theorem PMode.slots (h:PMode i n l d P T) (hon:d.off=false) (hi:i≤900) (hQ:d.Q.length≤900000000) {is:List Nat} {X:Nat→Slt} (h1:1≤is.length) (hl: ∀i∈is,i<P.L.length) (hx: ∀i∈is,(X i).is) (hn:is.Nodup) (hg1:PGood n P1) (hg:PGood n P2)
   (hs:Shows (overB (homesB l d) (is.map fun i=>slotPut i (X i))) P2.L P2.num):PStep i n T (P2,0) (if (stWr l d (is.map fun i=>slotPut i (X i))).2.2=0 then P2 else P1,stWr l d (is.map fun i=>slotPut i (X i))):=by
 have hlen:is.length≤16:=by
   have h2:=nodup_len hn (List.nodup_range (n:=P.L.length)) fun i hi=>List.mem_range.2 (hl i hi)
   rw [List.length_range,h.me.len] at h2
   have:=h.hi
   omega
 have hho:=h.homes hon
 obtain ⟨t1,t2⟩:=slots_trans (homes:=l.homes d) h1 hlen (fun i hi=>by have:=hl i hi;omega) hx hn
 refine h.wr hon hi hQ t1 (fun p hp x hxx=> ?_) t2 hg1 hg hs
 obtain ⟨k,_,rfl⟩:=List.mem_map.1 hp
 exact Slt.sec_lt _ x hxx
theorem PMode.turn (h:PMode i n l d P T) (hon:d.off=false) (hi:i≤900) (hQ:d.Q.length≤900000000) {is:List Nat} {F:Slt→Slt} (hg: ∀i∈is,i<P.L.length∧SGood (P.at_ i) (F (P.at_ i))) (hn:is.Nodup):PStep i n T (P.turns is F,0) (P.turnD l d is F):=by
 have hgood:PGood n (P.turns is F):=⟨turns_ok F is P h.me.ok hg hn,by rw [turns_hand,(turns_ok F is P h.me.ok hg hn).len,turns_len, ←h.me.ok.len];exact h.me.hand,by rw [turns_len];exact h.me.len,by rw [turns_num];exact h.me.num⟩
 by_cases h0:is= []
 · subst h0
   have e:P.turnD l d [] F=(P,(l,d,0)):=by
     unfold PC.turnD
     rw [if_pos rfl]
   rw [e]
   exact h.same hon h.me rfl rfl 0
 · obtain ⟨S,k1,k2,k3,k4⟩:=h.live hon
   have:=h.slots hon hi hQ (X:=fun i=>F (P.at_ i)) (List.length_pos_iff.2 h0) (fun i hi=>(hg i hi).1) (fun i hi=>(hg i hi).2.1) hn h.me hgood (by
     rw [turns_num]
     exact Shows.turns F is _ P P.num k3 (fun i hi=>(hg i hi).1) hn)
   unfold PC.turnD
   rw [if_neg h0]
   exact this
end
section
variable {i n:Nat} {l:Lg} {d:Dsk} {P P2:PC} {T:List PC}
theorem PMode.put (h:PMode i n l d P T) (hon:d.off=false) (hi:i≤900) (hQ:d.Q.length≤900000000) (x:Slt):PStep i n T (P.put x) (P.putD l d x):=by
 have hpl:=place_ok h.me.ok h.me.hand x.blk
 have hok:=put_ok h.me.ok h.me.hand x
 have hgood:PGood n (P.put x).1:=⟨hok.1,by rw [hok.1.len,hok.2.1, ←h.me.ok.len];exact hok.2.2.2,by rw [hok.2.1];exact h.me.len,by rw [hok.2.2.1];exact h.me.num⟩
 by_cases hx:x.is∧x≠Slt.no
 · by_cases h0:(P.place x.blk).2.2=0
   · obtain ⟨p1,p2⟩:=place_set h.me.ok h.me.hand hx.1 h0
     have e1:P.put x=((P.place x.blk).1.set (P.place x.blk).2.1 x,0):=by
       unfold PC.put
       rw [if_neg (fun e=>e hx),if_neg (fun e=>e h0)]
     have e2:P.putD l d x=putAt (P.place x.blk).1 l d (P.place x.blk).2.1 x:=by
       unfold PC.putD
       rw [if_neg (fun e=>e hx),if_neg (fun e=>e h0)]
     rw [hpl.2.1] at p1
     obtain ⟨S,k1,k2,k3,k4⟩:=h.live hon
     have hgp:PGood n (P.place x.blk).1:=⟨hpl.1,by rw [hpl.1.len,hpl.2.1, ←h.me.ok.len];exact hpl.2.2.2.1,by rw [hpl.2.1];exact h.me.len,by rw [hpl.2.2.1];exact h.me.num⟩
     have hst:=h.slots (P1:=(P.place x.blk).1) (P2:=(P.put x).1) hon hi hQ (is:= [(P.place x.blk).2.1]) (X:=fun _=>x) (Nat.le_refl _) (fun i hi=>by rw [List.mem_singleton.1 hi];exact p1) (fun _ _=>hx.1) (by simp) hgp hgood (by
       rw [hok.2.2.1,e1]
       simp only [List.map_cons,List.map_nil]
       show Shows _ ((P.place x.blk).1.L.set _ x) _
       rw [hpl.2.1,overB_cons _ _ _ (k:=1+(P.place x.blk).2.1) (by show (1+((P.place x.blk).2.1:Int))=_;omega) (by have:=k3.len;omega)]
       exact k3.set p1 x)
     simp only [List.map_cons,List.map_nil] at hst
     have e3:P.putD l d x=(if (stWr l d [slotPut (P.place x.blk).2.1 x]).2.2=0 then (P.put x).1 else (P.place x.blk).1,stWr l d [slotPut (P.place x.blk).2.1 x]):=by
       rw [e2,e1]
       rfl
     have e4:P.put x=((P.put x).1,0):=by rw [e1]
     rw [e3,e4]
     exact hst
   · have e1:P.put x=((P.place x.blk).1,(P.place x.blk).2.2):=by
       unfold PC.put
       rw [if_neg (fun e=>e hx),if_pos h0]
     have e2:P.putD l d x=((P.place x.blk).1,(l,d,(P.place x.blk).2.2)):=by
       unfold PC.putD
       rw [if_neg (fun e=>e hx),if_pos h0]
     rw [e1] at hgood ⊢
     rw [e2]
     exact h.same hon hgood hpl.2.1 hpl.2.2.1 _
 · have e1:P.put x=(P,2):=by
     unfold PC.put
     rw [if_pos hx]
   have e2:P.putD l d x=(P,(l,d,2)):=by
     unfold PC.putD
     rw [if_pos hx]
   rw [e1,e2]
   exact h.same hon h.me rfl rfl 2
theorem PMode.drop (h:PMode i n l d P T) (hon:d.off=false) (hi:i≤900) (hQ:d.Q.length≤900000000) (b:Blk):PStep i n T (PC.drop P b) (P.dropD l d b):=by
 unfold PC.dropD PC.drop
 cases hf:P.find b with
 | none=>exact h.same hon h.me rfl rfl 11
 | some k=>
   obtain ⟨h1, -, -⟩:=(find_some h.me.ok).1 hf
   have:=h.turn hon hi hQ (is:= [k]) (F:=tNo) (fun j hj=>by rw [List.mem_singleton.1 hj];exact ⟨h1,good_no _⟩) (by simp)
   have e:P.turns [k] tNo=P.set k Slt.no:=by
     show P.lay k Slt.no=_
     unfold PC.lay
     rw [if_pos rfl]
   rw [e] at this
   exact this
theorem PMode.sync (h:PMode i n l d P T) (hon:d.off=false):(cSync l d).2.2=0∧(cSync l d).2.1.off=false∧PMode i n (cSync l d).1 (cSync l d).2.1 P [P]∨(cSync l d).2.2=7∧(cSync l d).2.1.off=true∧PMode i n (cSync l d).1 (cSync l d).2.1 P T:=by
 obtain ⟨S,k1,k2,k3,k4⟩:=h.live hon
 have hL:=(lsync_Q (l:=l) (d:=d)).2
 rcases klive_sync k1 (sync_dok k1.fitd.2) with ⟨s1,s2,s3⟩|⟨s1,s2⟩
 · refine .inl ⟨s1,s2.on, .inl ⟨_,s2,fun s hs=>⟨P,by simp,by rw [List.mem_singleton.1 hs];exact k3⟩,by show Shows (homesB (l.sync d).1 (l.sync d).2) _ _;rw [s3];exact k3,rfl⟩,h.me,fun Q hQ=>by rw [List.mem_singleton.1 hQ];exact h.me,by show (l.sync d).2.L.length=_;rw [hL,h.dl],h.lo,h.hi⟩
 · exact .inr ⟨s1,s2.off, .inr ⟨S,s2,k2⟩,h.me,h.good,by show (l.sync d).2.L.length=_;rw [hL,h.dl],h.lo,h.hi⟩
theorem PMode.setNum (h:PMode i n l d P T) (hon:d.off=false) (hi:i≤900) (hQ:d.Q.length≤900000000) {x:Nat} (hx:x≤1099511627775):
   ((P.setNumD l d x).2.2.2=0∧(P.setNumD l d x).1={P with num:=x}∧(P.setNumD l d x).2.2.1.off=false∧PMode (i+2) n (P.setNumD l d x).2.1 (P.setNumD l d x).2.2.1 (P.setNumD l d x).1 [{P with num:=x}])∨
   ((P.setNumD l d x).2.2.2=7∧(P.setNumD l d x).2.2.1.off=true∧PMode (i+2) n (P.setNumD l d x).2.1 (P.setNumD l d x).2.2.1 (P.setNumD l d x).1 (T++ [{P with num:=x}])):=by
 have hho:=h.homes hon
 obtain ⟨t1,t2⟩:=num_trans (x:=x) (homes:=l.homes d) (by omega)
 obtain ⟨S,k1,k2,k3,k4⟩:=h.live hon
 have hg:PGood n {P with num:=x}:=⟨⟨h.me.ok.len,h.me.ok.is,h.me.ok.uniq,h.me.ok.used⟩,h.me.hand,h.me.len,hx⟩
 have hw:=h.wr (P1:=P) (P2:={P with num:=x}) hon hi hQ t1 (fun p hp y hy=>by rw [List.mem_singleton.1 hp] at hy;exact numSec_lt x y hy) t2 h.me hg (by
   rw [overB_cons _ _ _ (k:=0) rfl (by have:=k3.len;omega)]
   exact k3.renum x)
 unfold PC.setNumD
 rcases hw with ⟨a1,a2,a3,a4⟩|⟨a1,a2,a3⟩
 · have a1:(stWr l d [(0,numSec x)]).2.2=0:=a1
   rw [if_neg (by rw [a1];decide)]
   simp only [a1,if_true] at a4
   rcases PMode.sync a4 a3 with ⟨b1,b2,b3⟩|⟨b1,b2,b3⟩
   · rw [if_pos b1]
     exact .inl ⟨b1,rfl,b2,b3⟩
   · rw [if_neg (by rw [b1];decide)]
     refine .inr ⟨b1,b2,?_⟩
     exact ⟨.inr (by
       rcases b3.mode with ⟨S',c1, -⟩|c
       · have:=c1.on
         rw [b2] at this
         cases this
       · exact c),h.me,b3.good,b3.dl,b3.lo,b3.hi⟩
 · have a1:(stWr l d [(0,numSec x)]).2.2=7:=a1
   rw [if_pos (by rw [a1];decide)]
   simp only [a1] at a3
   exact .inr ⟨a1,a2,a3⟩
end
section
variable {i n:Nat} {l:Lg} {d:Dsk} {P P1 P2:PC} {T:List PC}
theorem PMode.fit (h:PMode i n l d P T) (hon:d.off=false) (hi:i≤900) (hQ:d.Q.length≤800000000):Fit l d:=by
 obtain ⟨S,k1,k2,k3,k4⟩:=h.live hon
 have hf:=k1.fitd
 refine ⟨h.ok hi,fun ps h8 h0=> ?_,by omega⟩
 rcases klive_check k1 (by omega) (check_dok hf.1 hf.2 (by omega)) with ⟨c0,c1, -⟩|⟨c0, -⟩
 · exact KInv.ok (.inl c1) (by omega)
 · rw [c0] at h0
   cases h0
def KI (i n:Nat) (T:List PC) (off:Bool) (P:PC) (l:Lg) (d:Dsk):Prop:=PMode i n l d P T∧d.off=off∧d.Q.length≤20000*i
theorem putD_Q (P:PC) (l:Lg) {d:Dsk} (x:Slt) (hd:d.L.length≤4096):(P.putD l d x).2.2.1.Q.length≤d.Q.length+15000:=by
 unfold PC.putD
 split
 · show d.Q.length≤_
   omega
 · split
   · show d.Q.length≤_
     omega
   · exact (stWr_Q l _ hd).1
theorem turnD_Q (P:PC) (l:Lg) {d:Dsk} (is:List Nat) (F:Slt→Slt) (hd:d.L.length≤4096):(P.turnD l d is F).2.2.1.Q.length≤d.Q.length+15000:=by
 unfold PC.turnD
 split
 · show d.Q.length≤_
   omega
 · exact (stWr_Q l _ hd).1
def KTo (w0:World) (i n c p:Nat) (T:List PC) (want:PC×Nat) (G:Nat→Prop) (w:World) (e:Ending) (w':World):Prop:=
 ∃(cd:Nat) (P2:PC) (off:Bool),e= .returned (.int .i64 (cd:Nat))∧(off=false∧cd=want.2∧P2=want.1∨off=true∧cd=7)∧PTo w0 (KI (i+2) n (T++ [want.1]) off P2) c p P2 G w w'
theorem kto_of {w0 w w':World} {F FD G:Nat→Prop} {A:CA} {want:PC×Nat} {r:PC×(Lg×Dsk×Nat)} {e:Ending} (hw:Below w0.heap.size w0 w) (hG: ∀b,A.all F FD b→G b) (hlo: ∀b,G b→w0.heap.size≤b) (hhi: ∀b,G b→b<w.heap.size) (hcw:CW w F FD A r e w') (hs:PStep i n T want r) (hq:r.2.2.1.Q.length≤20000*(i+2)):KTo w0 i n A.c A.p T want G w e w':=by
 obtain ⟨P2,l2,d2,cd⟩:=r
 obtain ⟨he,hst⟩:=hcw
 rcases hs with ⟨a1,a2,a3,a4⟩|⟨a1,a2,a3⟩
 · exact ⟨cd,P2,false,he, .inl ⟨rfl,a1,a2⟩,st_of hw hG hlo hhi hst ⟨a4,a3,hq⟩⟩
 · exact ⟨cd,P2,true,he, .inr ⟨rfl,a1⟩,st_of hw hG hlo hhi hst ⟨a3,a2,hq⟩⟩
theorem PSt.putK {w0 w:World} {c p:Nat} {G:Nat→Prop} (h:PSt w0 (KI i n T false P) c p P G w) (hi:i≤900) (x:Slt) (h64:Slt.w64 x) (hmx:x.data.size≤maxLen):Calls Tryz.prog 29 #[.pointer (some ⟨c,0,none⟩), .agg (slC x)] w fun e w'=>KTo w0 i n c p T (P.put x) G w e w':=by
 obtain ⟨⟨A,F,FD,l,d,rfl,rfl,h3,⟨m1,m2,m3⟩,h5⟩,h6,h7,h8⟩:=h
 refine (pput_any h3 (m1.fit m2 hi (by omega)) x h64 hmx).mono ?_
 intro e w' hcw
 have hq:=putD_Q P l x (d:=d) (by rw [m1.dl];have:=m1.hi;omega)
 exact kto_of h8 h5 h6 h7 hcw (m1.put m2 hi (by omega) x) (by omega)
theorem PSt.dropK {w0 w:World} {c p:Nat} {G:Nat→Prop} (h:PSt w0 (KI i n T false P) c p P G w) (hi:i≤900) (b:Blk):Calls Tryz.prog 30 #[.pointer (some ⟨c,0,none⟩), .agg (blC b)] w fun e w'=>KTo w0 i n c p T (PC.drop P b) G w e w':=by
 obtain ⟨⟨A,F,FD,l,d,rfl,rfl,h3,⟨m1,m2,m3⟩,h5⟩,h6,h7,h8⟩:=h
 refine (pdrop_any h3 (m1.fit m2 hi (by omega)) b).mono ?_
 intro e w' hcw
 have hq:(P.dropD l d b).2.2.1.Q.length≤d.Q.length+15000:=by
   unfold PC.dropD
   split
   · show d.Q.length≤_
     omega
   · exact turnD_Q P l _ _ (by rw [m1.dl];have:=m1.hi;omega)
 exact kto_of h8 h5 h6 h7 hcw (m1.drop m2 hi (by omega) b) (by omega)
theorem PSt.dropFileK {w0 w:World} {c p:Nat} {G:Nat→Prop} (h:PSt w0 (KI i n T false P) c p P G w) (hi:i≤900) (f:Int×Int):Calls Tryz.prog 31 #[.pointer (some ⟨c,0,none⟩), .agg #[.int .i64 f.1, .int .i64 f.2]] w fun e w'=>KTo w0 i n c p T (P.map (qFile f) tNo,0) G w e w':=by
 obtain ⟨⟨A,F,FD,l,d,rfl,rfl,h3,⟨m1,m2,m3⟩,h5⟩,h6,h7,h8⟩:=h
 refine (pdropFile_any h3 (m1.fit m2 hi (by omega)) f).mono ?_
 rintro e w' ⟨is,hby,hcw⟩
 have hq:=turnD_Q P l (d:=d) is tNo (by rw [m1.dl];have:=m1.hi;omega)
 have hs:=m1.turn m2 hi (by omega) (is:=is) (F:=tNo) (fun j hj=>⟨((hby.mem j).1 hj).1,good_no _⟩) hby.nodup
 rw [map_of hby] at hs
 exact kto_of h8 h5 h6 h7 hcw hs (by omega)
theorem PSt.retagK {w0 w:World} {c p:Nat} {G:Nat→Prop} (h:PSt w0 (KI i n T false P) c p P G w) (hi:i≤900) (f:Int×Int) (v:Nat) (hv:v≤1099511627775):Calls Tryz.prog 32 #[.pointer (some ⟨c,0,none⟩), .agg #[.int .i64 f.1, .int .i64 f.2], .int .u64 (v:Nat)] w fun e w'=>KTo w0 i n c p T (P.map (qClean f) (tVer v),0) G w e w':=by
 obtain ⟨⟨A,F,FD,l,d,rfl,rfl,h3,⟨m1,m2,m3⟩,h5⟩,h6,h7,h8⟩:=h
 refine (pretag_any h3 (m1.fit m2 hi (by omega)) f v hv).mono ?_
 rintro e w' ⟨is,hby,hcw⟩
 have hq:=turnD_Q P l (d:=d) is (tVer v) (by rw [m1.dl];have:=m1.hi;omega)
 have hs:=m1.turn m2 hi (by omega) (is:=is) (F:=tVer v) (fun j hj=>by
   obtain ⟨k1,k2,k3⟩:=(hby.mem j).1 hj
   exact ⟨k1,good_ver (h3.ok.is _ (List.mem_of_getElem? (at_get k1))) k2 hv⟩) hby.nodup
 rw [map_of hby] at hs
 exact kto_of h8 h5 h6 h7 hcw hs (by omega)
theorem PMode.grow (h:PMode i n l d P T) (hoff:d.off=true) {Q:PC} (hg:PGood n Q):PMode i n l d P (T++ [Q]):=by
 refine ⟨.inr ?_,h.me,fun R hR=> ?_,h.dl,h.lo,h.hi⟩
 · rcases h.mode with ⟨S,h1, -⟩|⟨S,h1,h2⟩
   · have:=h1.on
     rw [hoff] at this
     cases this
   · exact ⟨S,h1,fun s hs=>by
       obtain ⟨R,r1,r2⟩:=h2 s hs
       exact ⟨R,List.mem_append.2 (.inl r1),r2⟩⟩
 · rcases List.mem_append.1 hR with hR|hR
   · exact h.good R hR
   · rw [List.mem_singleton.1 hR]
     exact hg
def KToS (w0:World) (i n c p:Nat) (T:List PC) (want:PC) (G:Nat→Prop) (w:World) (e:Ending) (w':World):Prop:=
 ∃(cd:Nat) (P2:PC) (off:Bool) (T2:List PC),e= .returned (.int .i64 (cd:Nat))∧(off=false∧cd=0∧P2=want∧T2= [want]∨off=true∧cd=7∧T2=T++ [want])∧PTo w0 (KI (i+2) n T2 off P2) c p P2 G w w'
theorem PSt.syncK {w0 w:World} {c p:Nat} {G:Nat→Prop} (h:PSt w0 (KI i n T false P) c p P G w):Calls Tryz.prog 34 #[.pointer (some ⟨c,0,none⟩)] w fun e w'=>KToS w0 i n c p T P G w e w':=by
 obtain ⟨⟨A,F,FD,l,d,rfl,rfl,h3,⟨m1,m2,m3⟩,h5⟩,h6,h7,h8⟩:=h
 refine (psync_any h3).mono ?_
 intro e w' hp
 have he:=hp.1
 have hst:=hp.st
 have hq:=(lsync_Q (l:=l) (d:=d)).1
 rcases m1.sync m2 with ⟨a1,a2,a3⟩|⟨a1,a2,a3⟩
 · refine ⟨0,P,false, [P],by rw [he,a1], .inl ⟨rfl,rfl,rfl,rfl⟩,st_of h8 h5 h6 h7 hst ⟨a3.mono (by omega),a2,by omega⟩⟩
 · exact ⟨7,P,true,T++ [P],by rw [he,a1], .inr ⟨rfl,rfl,rfl⟩,st_of h8 h5 h6 h7 hst ⟨(a3.grow a2 m1.me).mono (by omega),a2,by omega⟩⟩
theorem PSt.setNumberK {w0 w:World} {c p:Nat} {G:Nat→Prop} (h:PSt w0 (KI i n T false P) c p P G w) (hi:i≤900) (x:Nat) (hx:x≤1099511627775):Calls Tryz.prog 33 #[.pointer (some ⟨c,0,none⟩), .int .u64 (x:Nat)] w fun e w'=>KToS w0 i n c p T {P with num:=x} G w e w':=by
 obtain ⟨⟨A,F,FD,l,d,rfl,rfl,h3,⟨m1,m2,m3⟩,h5⟩,h6,h7,h8⟩:=h
 refine (psetNumber_any h3 (m1.fit m2 hi (by omega)) x hx).mono ?_
 rintro e w' ⟨he,hst⟩
 have hq:(P.setNumD l d x).2.2.1.Q.length≤d.Q.length+15000:=by
   have h1:=(stWr_Q l (d:=d) [(0,numSec x)] (by rw [m1.dl];have:=m1.hi;omega)).1
   unfold PC.setNumD
   split
   · exact h1
   · exact Nat.le_trans (lsync_Q (l:=(stWr l d [(0,numSec x)]).1) (d:=(stWr l d [(0,numSec x)]).2.1)).1 h1
 have hs:=m1.setNum m2 hi (by omega) hx
 generalize P.setNumD l d x=r at*
 obtain ⟨P2,l2,d2,cd⟩:=r
 rcases hs with ⟨a1,a2,a3,a4⟩|⟨a1,a2,a3⟩
 · exact ⟨cd,P2,false,_,he, .inl ⟨rfl,a1,a2,rfl⟩,st_of h8 h5 h6 h7 hst ⟨a4,a3,by simp only at hq;omega⟩⟩
 · exact ⟨cd,P2,true,_,he, .inr ⟨rfl,a1,rfl⟩,st_of h8 h5 h6 h7 hst ⟨a3,a2,by simp only at hq;omega⟩⟩
end
section
variable {i n:Nat} {P:PC} {T:List PC} {off:Bool} {w0 w:World} {c p:Nat} {G:Nat→Prop}
theorem PSt.liveK (h:PSt w0 (KI i n T off P) c p P G w):Calls Tryz.prog 37 #[.pointer (some ⟨p,0,none⟩)] w fun e w'=>e= .returned (.bool (!off))∧w'=w:=by
 obtain ⟨⟨A,F,FD,l,d,rfl,rfl,h3,⟨m1,m2,m3⟩,h5⟩,h6,h7,h8⟩:=h
 have:=live_any h3.disk
 rw [m2] at this
 exact this
theorem PSt.crashK (h:PSt w0 (KI i n T off P) c p P G w) (hi:i≤200) (v:Value) (ks:List Int) (hv:LSl enI 1 w v ks) (hvG:0<ks.length→ ∀r,v.ownBlock=some r→¬ G r) (torn:Int):Calls Tryz.prog 39 #[.pointer (some ⟨p,0,none⟩),v, .int .i64 torn] w
   fun e w'=>e= .returned (.tuple #[])∧Mod G w w'∧ ∃(FD:Nat→Prop) (d2:Dsk) (l2:Lg) (Q:PC),DAt w' FD p d2∧(∀b,FD b→G b)∧Q∈T∧PGood n Q∧openB d2 20=some l2∧newestB d2 (2+20)<16777215∧KLive 20 (i+1) l2 d2 [homesB l2 d2]∧Shows (homesB l2 d2) Q.L Q.num∧d2.L.length=n+24∧d2.Q= []:=by
 obtain ⟨⟨A,F,FD,l,d,rfl,rfl,h3,⟨m1,m2,m3⟩,h5⟩,h6,h7,h8⟩:=h
 have hG: ∀b,FD b→G b:=fun b hb=>h5 b (.inr (.inr hb))
 refine (dcrash_any h3.disk v ks hv (fun h0 r hr hf=>hvG h0 r hr (hG r hf)) torn).mono ?_
 rintro e w' ⟨he,hd,hm⟩
 obtain ⟨l2,Q,k1,k2,k3,k4,k5,k6⟩:=m1.crash hi ks torn
 exact ⟨he,hm.mono fun b _ hb=>hG b hb,FD,_,l2,Q,hd,hG,k1,m1.good Q k1,k2,k3,k4,k5,k6,crash_Q d ks torn⟩
end
section
variable {i n:Nat} {l:Lg} {d:Dsk} {P Q:PC} {T T0:List PC} {off:Bool} {w0 w w1:World} {c p:Nat} {G:Nat→Prop}
theorem get_num (c:PC) (b:Blk):(c.get b).1.num=c.num:=by
 unfold PC.get
 split<;>rfl
theorem get_hand {c:PC} (h:c.R.hand<c.R.L.length) (b:Blk):(c.get b).1.R.hand<(c.get b).1.R.L.length:=by
 unfold PC.get
 split
 · rename_i k _
   show (c.R.touch k).hand<(c.R.touch k).L.length
   have e:(c.R.touch k).hand=c.R.hand:=by
     unfold Rn.touch
     split<;>rfl
   rw [e,touch_len]
   exact h
 · exact h
theorem PGood.get (h:PGood n P) (b:Blk):PGood n (P.get b).1:=⟨h.ok.get b,get_hand h.hand b,by rw [get_L];exact h.len,by rw [get_num];exact h.num⟩
theorem PMode.get (h:PMode i n l d P (T0++ [Q])) (b:Blk):PMode i n l d (P.get b).1 (T0++ [(Q.get b).1]):=by
 have hin: ∀s,(∃R∈T0++ [Q],Shows s R.L R.num)→ ∃R∈T0++ [(Q.get b).1],Shows s R.L R.num:=by
   rintro s ⟨R,r1,r2⟩
   rcases List.mem_append.1 r1 with r1|r1
   · exact ⟨R,List.mem_append.2 (.inl r1),r2⟩
   · rw [List.mem_singleton.1 r1] at r2
     exact ⟨(Q.get b).1,by simp,by rw [get_L,get_num];exact r2⟩
 refine ⟨?_,h.me.get b,fun R hR=> ?_,h.dl,h.lo,h.hi⟩
 · rcases h.mode with ⟨S,h1,h2,h3,h4⟩|⟨S,h1,h2⟩
   · have hq:Q=P:=by simpa using h4
     subst hq
     exact .inl ⟨S,h1,fun s hs=>hin s (h2 s hs),by rw [get_L,get_num];exact h3,by simp⟩
   · exact .inr ⟨S,h1,fun s hs=>hin s (h2 s hs)⟩
 · rcases List.mem_append.1 hR with hR|hR
   · exact h.good R (List.mem_append.2 (.inl hR))
   · rw [List.mem_singleton.1 hR]
     exact (h.good Q (by simp)).get b
theorem PSt.getK (h:PSt w0 (KI i n (T0++ [Q]) off P) c p P G w) (b:Blk):Calls Tryz.prog 11 #[.pointer (some ⟨c,0,none⟩), .agg (blC b)] w fun e w'=>e= .returned (.tuple #[.agg (slC (P.get b).2.1), .bool (P.get b).2.2])∧PTo w0 (KI i n (T0++ [(Q.get b).1]) off (P.get b).1) c p (P.get b).1 G w w':=
 (PSt.get h b).mono fun _ _ ⟨h1,h2⟩=>⟨h1,h2.imp fun _ _ ⟨m1,m2,m3⟩=>⟨m1.get b,m2,m3⟩⟩
theorem PSt.fuseK (h:PSt w0 (KI i n T off P) c p P G w) (x:Int) (hx:x<9223372036854775808):Calls Tryz.prog 38 #[.pointer (some ⟨p,0,none⟩), .int .i64 x] w fun e w'=>(∃v:Nat,e= .returned (.int .i64 (v:Nat)))∧ ∃off',PTo w0 (KI i n T off' P) c p P G w w':=by
 obtain ⟨⟨A,F,FD,l,d,rfl,rfl,h3,⟨m1,m2,m3⟩,h5⟩,h6,h7,h8⟩:=h
 refine (fuse_any h3.disk x hx).mono ?_
 rintro e w' ⟨he,hd,hm⟩
 have hC:CAt w' F FD A l (d.arm x) P:=⟨hm.heap h3.blk (h3.own _ (.inl rfl)).2,hm.heap h3.slots (h3.own _ (.inr (.inl rfl))).2,h3.wh.kept (hm.block _ h3.wh.lt (h3.own _ (.inr (.inr (.inl rfl)))).2),h3.ring.mod hm (h3.own _ (.inr (.inr (.inr rfl)))).2,h3.log.mod hm h3.ap,hd,h3.ap,h3.own,h3.ne,h3.ok,h3.num⟩
 exact ⟨⟨_,he⟩,(d.arm x).off,st_of h8 h5 h6 h7 (cd:=0) ⟨F,FD,hC,hm.mono fun _ _ h=> .inr (.inr h),fun _ h=> .inl h,fun _ h=> .inl h⟩ ⟨m1.arm hx,rfl,by show (d.arm x).Q.length≤_;rw [(arm_L d x).2];exact m3⟩⟩
def KDo (w0:World) (i n c p:Nat) (T:List PC) (want:PC×Nat) (kd:Int) (G:Nat→Prop) (w:World) (e:Ending) (w':World):Prop:=
 ∃(cd:Nat) (P2:PC) (off:Bool),e= .returned (.int .i64 (cd:Nat))∧(cd=want.2∨cd=7)∧PTo w0 (KI (i+2) n (if cd=0∧4<kd then [want.1] else T++ [want.1]) off P2) c p P2 G w w'
theorem KDo.ahead {want:PC×Nat} {kd:Int} {e:Ending} {w':World} (hb1:Below w.heap.size w w1) (hhi: ∀b,G b→b<w.heap.size) (h:KDo w0 i n c p T want kd G w1 e w'):KDo w0 i n c p T want kd G w e w':=by
 obtain ⟨cd,P2,off,h1,h2,h3⟩:=h
 exact ⟨cd,P2,off,h1,h2,PTo.ahead hb1 hhi h3⟩
theorem KTo.kdo {want:PC×Nat} {kd:Int} {e:Ending} {w':World} (h:KTo w0 i n c p T want G w e w') (hk:¬ 4<kd):KDo w0 i n c p T want kd G w e w':=by
 obtain ⟨cd,P2,off,h1,h2,h3⟩:=h
 refine ⟨cd,P2,off,h1,?_,?_⟩
 · rcases h2 with ⟨-,h2, -⟩|⟨-,h2⟩
   · exact .inl h2
   · exact .inr h2
 · rw [if_neg fun e=>hk e.2]
   exact h3
theorem KToS.kdo {want:PC} {kd:Int} {e:Ending} {w':World} (h:KToS w0 i n c p T want G w e w') (hk:4<kd):KDo w0 i n c p T (want,0) kd G w e w':=by
 obtain ⟨cd,P2,off,T2,h1,h2,h3⟩:=h
 refine ⟨cd,P2,off,h1,?_,?_⟩
 · rcases h2 with ⟨-,h2, -⟩|⟨-,h2, -⟩
   · exact .inl h2
   · exact .inr h2
 · rcases h2 with ⟨-,h2, -,rfl⟩|⟨-,h2,rfl⟩
   · rw [if_pos ⟨h2,hk⟩]
     exact h3
   · rw [if_neg fun e=>by omega]
     exact h3
theorem KI.stay (h:KI i n T false P l d):KI (i+2) n (T++ [P]) false P l d:=by
 obtain ⟨m1,m2,m3⟩:=h
 rcases m1.same (P2:=P) m2 m1.me rfl rfl 2 with ⟨-, -,h3,h4⟩|⟨h1, -⟩
 · exact ⟨h4,m2,by omega⟩
 · cases h1
set_option maxRecDepth 20000 in
set_option maxHeartbeats 4000000 in
theorem PSt.doesK (h:PSt w0 (KI i n T false P) c p P G w) (hi:i≤900) (y:DoX×Sv) (hf:DoX.fine w y) (hk0:0≤y.1.kind) (hk1:y.1.kind≠1):Calls Tryz.prog 13 #[.pointer (some ⟨c,0,none⟩), .agg (doC y)] w fun e w'=>KDo w0 i n c p T (P.does y.1) y.1.kind G w e w':=by
 obtain ⟨w1,hw1⟩: ∃w1,w.alloc (.cells (doC y) 41)=w1:=⟨_,rfl⟩
 have hb1:Below w.heap.size w w1:=by rw [←hw1];exact (Below.refl _ _).alloc (Nat.le_refl _) _
 have hX:w1.heap[w.heap.size]?=some (.cells (doC y) 41 (0,0)):=by rw [←hw1];exact heap_alloc_at
 have h1:=h.below hb1
 have q0:w1.cell? ⟨w.heap.size,0,none⟩=some (.int .i64 y.1.kind):=cell_of hX rfl
 have q9:w1.cell? ⟨w.heap.size,9,none⟩=some (.int .u64 (y.1.v:Nat)):=cell_of hX rfl
 have hLx:=doC_x hX
 have hLb:=doC_blk hX
 have hLf:=doC_file hX
 have hagx:=aggXs y.1.x
 have hagb:=aggBl y.1.x.blk
 have hagf:=aggFi y.1.x.blk.1 y.1.x.blk.2.1
 have HA:Hid (∀{want:PC×Nat} {kd:Int} {e:Ending} {w':World},KDo w0 i n c p T want kd G w1 e w'→KDo w0 i n c p T want kd G w e w'):=Lib.hid fun h'=>h'.ahead hb1 h.hi
 have H1:=Lib.hid h1
 have HF:=Lib.hid hf
 have HX:=Lib.hid hX
 have hi':=hi
 obtain ⟨k,hk⟩: ∃k,y.1.kind=k:=⟨_,rfl⟩
 rw [hk] at q0 hk0 hk1 ⊢
 have HK:=Lib.hid hk
 clear hb1 h h1 hf hX hk
 by_cases k0:k=0
 · subst k0
   have hd:P.does y.1=P.put y.1.x:=by unfold PC.does;rw [if_pos HK.out]
   have HD:=Lib.hid hd
   have hmi:=mine_any w1 y.1.x
   clear hd q9 hk0 hk1
   go_enter Tryz.func13,Tryz.ntmps13
   go_upto_region 1 with fail
   simp only [hw1] at*
   clear hw1
   go_wp2_with (first
     | ((with_reducible refine wpList_loadA hagx hLx ?_ ?_);rfl;go_frame)
     | fail)
   refine hmi.mono ?_
   rintro e w2 ⟨rfl,hb2⟩
   have hpu:=(H1.out.below hb2).putK hi' y.1.x HF.out.x HF.out.data
   have HB2:=Lib.hid hb2
   clear hmi hb2
   go_wp2_with fail
   refine hpu.mono ?_
   rintro e w3 hT
   obtain ⟨cd,P2,off2,rfl,hcd,hT3⟩:=HA.out (KDo.ahead HB2.out H1.out.hi (hT.kdo (kd:=0) (by decide)))
   have HCD:=Lib.hid hcd
   have HT:=Lib.hid hT3
   clear hpu hT hcd hT3
   go_wp2
   go_ret
   rw [HD.out]
   exact ⟨cd,P2,off2,rfl,HCD.out,HT.out⟩
 · by_cases k2:k=2
   · subst k2
     have hd:P.does y.1=PC.drop P y.1.x.blk:=by unfold PC.does;rw [HK.out];rfl
     have HD:=Lib.hid hd
     have hpu:=H1.out.dropK hi' y.1.x.blk
     clear hd q9 k0 hk0 hk1
     go_enter Tryz.func13,Tryz.ntmps13
     go_upto_region 1 with fail
     simp only [hw1] at*
     clear hw1
     go_wp2_with (first
       | ((with_reducible refine wpList_loadA hagb hLb ?_ ?_);rfl;go_frame)
       | fail)
     refine hpu.mono ?_
     rintro e w3 hT
     obtain ⟨cd,P2,off2,rfl,hcd,hT3⟩:=HA.out (hT.kdo (kd:=2) (by decide))
     have HCD:=Lib.hid hcd
     have HT:=Lib.hid hT3
     clear hpu hT hcd hT3
     go_wp2
     go_ret
     rw [HD.out]
     exact ⟨cd,P2,off2,rfl,HCD.out,HT.out⟩
   · by_cases k3:k=3
     · subst k3
       have hd:P.does y.1=(P.map (qFile (y.1.x.blk.1,y.1.x.blk.2.1)) tNo,0):=by unfold PC.does;rw [HK.out];rfl
       have HD:=Lib.hid hd
       have hpu:=H1.out.dropFileK hi' (y.1.x.blk.1,y.1.x.blk.2.1)
       clear hd q9 k0 k2 hk0 hk1
       go_enter Tryz.func13,Tryz.ntmps13
       go_upto_region 1 with fail
       simp only [hw1] at*
       clear hw1
       go_wp2_with (first
         | ((with_reducible refine wpList_loadA hagf hLf ?_ ?_);rfl;go_frame)
         | fail)
       refine hpu.mono ?_
       rintro e w3 hT
       obtain ⟨cd,P2,off2,rfl,hcd,hT3⟩:=HA.out (hT.kdo (kd:=3) (by decide))
       have HCD:=Lib.hid hcd
       have HT:=Lib.hid hT3
       clear hpu hT hcd hT3
       go_wp2
       go_ret
       rw [HD.out]
       exact ⟨cd,P2,off2,rfl,HCD.out,HT.out⟩
     · by_cases k4:k=4
       · subst k4
         have hpu:Calls Tryz.prog 32 #[.pointer (some ⟨c,0,none⟩), .agg #[.int .i64 y.1.x.blk.1, .int .i64 y.1.x.blk.2.1], .int .u64 (y.1.v:Nat)] w1 fun e w'=>KDo w0 i n c p T (P.does y.1) 4 G w1 e w':=by
           by_cases hv:y.1.v≤1099511627775
           · have hd:P.does y.1=(P.map (qClean (y.1.x.blk.1,y.1.x.blk.2.1)) (tVer y.1.v),0):=by unfold PC.does;rw [HK.out,if_pos hv];rfl
             rw [hd]
             exact (H1.out.retagK hi' (y.1.x.blk.1,y.1.x.blk.2.1) y.1.v hv).mono fun e w' h=>h.kdo (by decide)
           · have hd:P.does y.1=(P,2):=by unfold PC.does;rw [HK.out,if_neg hv];rfl
             rw [hd]
             exact (H1.out.retag_no (y.1.x.blk.1,y.1.x.blk.2.1) y.1.v hv HF.out.v).mono fun e w' ⟨he,hb⟩=>⟨2,P,false,he, .inl rfl,(H1.out.here.behind hb).imp fun _ _ h=>by rw [if_neg (by decide)];exact h.stay⟩
         clear k0 k2 k3 hk0 hk1
         go_enter Tryz.func13,Tryz.ntmps13
         go_upto_region 1 with fail
         simp only [hw1] at*
         clear hw1
         go_wp2_with (first
           | ((with_reducible refine wpList_loadA hagf hLf ?_ ?_);rfl;go_frame)
           | fail)
         refine hpu.mono ?_
         rintro e w3 hT
         obtain ⟨cd,P2,off2,rfl,hcd,hT3⟩:=HA.out hT
         have HCD:=Lib.hid hcd
         have HT:=Lib.hid hT3
         clear hpu hT hcd hT3
         go_wp2
         go_ret
         exact ⟨cd,P2,off2,rfl,HCD.out,HT.out⟩
       · by_cases k5:k=5
         · subst k5
           have hpu:Calls Tryz.prog 33 #[.pointer (some ⟨c,0,none⟩), .int .u64 (y.1.v:Nat)] w1 fun e w'=>KDo w0 i n c p T (P.does y.1) 5 G w1 e w':=by
             by_cases hv:y.1.v≤1099511627775
             · have hd:P.does y.1=({P with num:=y.1.v},0):=by unfold PC.does;rw [HK.out,if_neg (by decide),if_neg (by decide),if_neg (by decide),if_neg (by decide),if_pos rfl,if_pos hv]
               rw [hd]
               exact (H1.out.setNumberK hi' y.1.v hv).mono fun e w' h=>h.kdo (by decide)
             · have hd:P.does y.1=(P,2):=by unfold PC.does;rw [HK.out,if_neg (by decide),if_neg (by decide),if_neg (by decide),if_neg (by decide),if_pos rfl,if_neg hv]
               rw [hd]
               refine (H1.out.setNumber_no y.1.v hv HF.out.v).mono ?_
               rintro e w' ⟨he,rfl⟩
               exact ⟨2,P,false,he, .inl rfl,H1.out.here.imp fun _ _ h=>by rw [if_neg (by decide)];exact h.stay⟩
           clear k0 k2 k3 k4 hk0 hk1
           go_enter Tryz.func13,Tryz.ntmps13
           go_upto_region 1 with fail
           simp only [hw1] at*
           clear hw1
           go_wp2_with fail
           refine hpu.mono ?_
           rintro e w3 hT
           obtain ⟨cd,P2,off2,rfl,hcd,hT3⟩:=HA.out hT
           have HCD:=Lib.hid hcd
           have HT:=Lib.hid hT3
           clear hpu hT hcd hT3
           go_wp2
           go_ret
           exact ⟨cd,P2,off2,rfl,HCD.out,HT.out⟩
         · have hd:P.does y.1=(P,0):=by unfold PC.does;rw [HK.out,if_neg k0,if_neg k2,if_neg k3,if_neg k4,if_neg k5]
           have HD:=Lib.hid hd
           have hpu:=H1.out.syncK
           have HK4:Hid (4<k):=Lib.hid (by omega)
           clear hd q9 hk0 hk1
           go_enter Tryz.func13,Tryz.ntmps13
           go_upto_region 1 with fail
           simp only [hw1] at*
           clear hw1
           go_wp2_with fail
           refine hpu.mono ?_
           rintro e w3 hT
           obtain ⟨cd,P2,off2,rfl,hcd,hT3⟩:=HA.out (hT.kdo HK4.out)
           have HCD:=Lib.hid hcd
           have HT:=Lib.hid hT3
           clear hpu hT hcd hT3
           go_wp2
           go_ret
           rw [HD.out]
           exact ⟨cd,P2,off2,rfl,HCD.out,HT.out⟩
end
def ptX (y:XA×PC):Value:= .pointer (some ⟨y.1.c,0,none⟩)
structure StX (B:Nat) (G:Nat→Prop) (w:World) (v:Value) (l:List (XA×PC)):Prop where
 off:Off 51 w v (l.map ptX)
 lo: ∀r,v.ownBlock=some r→B≤r
 ap: ∀r,v.ownBlock=some r→¬ G r
 at_: ∀y∈l,XAt w y.1 y.2∧ ∀b,y.1.own b→¬ G b∧v.ownBlock≠some b
section
variable {B:Nat} {G G' S:Nat→Prop} {w w':World} {v:Value} {l l0:List (XA×PC)} {y:XA×PC}
theorem StX.shape (h:StX B G w v l): ∃b off cap,v= .slice (some ⟨b,off,none⟩) l.length cap∧l.length≤cap∧b<w.heap.size:=by
 have hl:=fun r=>h.off.lt (r:=r)
 obtain ⟨b,off,cap,cur,rfl,h3, -⟩:=h.off
 rw [List.length_map] at h3
 exact ⟨b,off,cap,by rw [List.length_map],h3,hl b rfl⟩
theorem StX.lt (h:StX B G w v l) {r:Nat} (hr:v.ownBlock=some r):r<w.heap.size:=h.off.lt hr
theorem StX.mod (h:StX B G w v l) (hm:Mod S w w') (hS: ∀b,S b→G b∨w.heap.size≤b) (hG: ∀b,G' b→G b∨w.heap.size≤b):StX B G' w' v l:=by
 refine ⟨h.off.mod hm fun r hr hs=> ?_,h.lo,fun r hr hg=> ?_,fun y hy=> ?_⟩
 · have:=h.lt hr
   rcases hS r hs with e|e
   · exact h.ap r hr e
   · omega
 · have:=h.lt hr
   rcases hG r hg with e|e
   · exact h.ap r hr e
   · omega
 · obtain ⟨h1,h2⟩:=h.at_ y hy
   refine ⟨h1.mod hm fun b hb hs=> ?_,fun b hb=>⟨fun hg=> ?_,(h2 b hb).2⟩⟩
   · have:=h1.lt b hb
     rcases hS b hs with e|e
     · exact (h2 b hb).1 e
     · omega
   · have:=h1.lt b hb
     rcases hG b hg with e|e
     · exact (h2 b hb).1 e
     · omega
theorem StX.below (h:StX B G w v l) (hb:Below w.heap.size w w'):StX B G w' v l:=
 h.mod (S:=fun b=>w.heap.size≤b) (Mod.of_below hb) (fun _ h=> .inr h) fun _ h=> .inl h
theorem StX.sl (h:StX B G w v l):LSl enX 1 w v l:=by
 obtain ⟨b,off,cap,cur,rfl,h1,h2,h3,h4,h5⟩:=h.off
 rw [List.length_map] at h1 ⊢
 refine ⟨_,cap,rfl,h1,h2,fun _=>⟨b,off,rfl,lt_of_block h3,fun i x hx j hj=> ?_⟩⟩
 have hj0:j=0:=by simpa [enX] using hj
 subst hj0
 rw [Nat.mul_one,Nat.add_zero]
 have:=h5 i (ptX x) (by rw [List.getElem?_map,hx];rfl)
 rw [cell_of h3 this]
 rfl
theorem StX.cell {b off n cap:Nat} (h:StX B G w (.slice (some ⟨b,off,none⟩) n cap) l) {j:Nat} (hj:l[j]?=some y):w.cell? ⟨b,off+j,none⟩=some (.pointer (some ⟨y.1.c,0,none⟩)):=
 h.off.cell (by rw [List.getElem?_map,hj];rfl)
theorem StX.free {b off n cap:Nat} (h:StX B G w (.slice (some ⟨b,off,none⟩) n cap) l) (o:Nat):w.frozen? ⟨b,o,none⟩=false:=by
 obtain ⟨b',off',cap',cur,hv,h1,h2,h3,h4,h5⟩:=h.off
 cases hv
 exact free_of h3
theorem StX.tail {b off n cap:Nat} (h:StX B G w (.slice (some ⟨b,off,none⟩) n cap) (l0++ [y])):StX B G w (.slice (some ⟨b,off+l0.length,none⟩) 1 (cap-l0.length)) [y]:=by
 have ht:=h.off.tail (us0:=l0.map ptX) (u:=ptX y) (by rw [List.map_append];rfl)
 rw [List.length_map] at ht
 exact ⟨ht,h.lo,h.ap,fun x hx=>by
   rw [List.mem_singleton.1 hx]
   exact h.at_ y (by simp)⟩
theorem StX.setLast {b off n cap:Nat} {z:XA×PC} (h:StX B G w (.slice (some ⟨b,off,none⟩) n cap) (l0++ [y])) (hz:XAt w z.1 z.2) (hzo: ∀x,z.1.own x→¬ G x∧x≠b):StX B G (w.setCell ⟨b,off+l0.length,none⟩ (.pointer (some ⟨z.1.c,0,none⟩))) (.slice (some ⟨b,off,none⟩) n cap) (l0++ [z]):=by
 have hm:=(Mod.refl (fun x=>x=b) w).setCell ⟨b,off+l0.length,none⟩ (.pointer (some ⟨z.1.c,0,none⟩)) (fun _=>rfl)
 have hat:=h.at_
 have ho:=h.off
 refine ⟨?_,h.lo,h.ap,fun x hx=> ?_⟩
 · obtain ⟨b',off',cap',cur,hv,h1,h2,h3,h4,h5⟩:=ho
   have hl:(l0.map ptX++ [ptX y]).length=l0.length+1:=by simp
   rw [List.map_append] at hv h1 h5
   have hl':(List.map ptX l0++List.map ptX [y]).length=l0.length+1:=by simp
   rw [hl'] at hv h1
   cases hv
   refine ⟨b,off,cap,cur.setIfInBounds (off+l0.length) (ptX z),by simp,by simpa using h1,h2,?_,by simpa using h4,fun j u hj=> ?_⟩
   · rw [heap_setCell_at h3]
     rfl
   · have hjl:j<l0.length+1:=by have:=(List.getElem?_eq_some_iff.1 hj).1;simpa using this
     by_cases hjn:j<l0.length
     · rw [Array.getElem?_setIfInBounds_ne (by omega)]
       refine h5 j u ?_
       rw [List.map_append,List.getElem?_append_left (by simpa using hjn)] at hj
       rw [List.getElem?_append_left (by simpa using hjn)]
       exact hj
     · obtain rfl:j=l0.length:=by omega
       rw [Array.getElem?_setIfInBounds_self_of_lt (by omega)]
       simpa using hj
 · rcases List.mem_append.1 hx with hx|hx
   · obtain ⟨k1,k2⟩:=hat x (List.mem_append.2 (.inl hx))
     exact ⟨k1.mod hm fun c hc e=>(k2 c hc).2 (by rw [e];rfl),k2⟩
   · rw [List.mem_singleton.1 hx]
     exact ⟨hz.mod hm fun c hc e=>(hzo c hc).2 e,fun c hc=>⟨(hzo c hc).1,fun e=>(hzo c hc).2 (by cases e;rfl)⟩⟩
theorem infoXP:(Tryz.prog.info? 51).map (fun i=>(i.zero.map (fun z=>z.cells.size),i.size,decide (i.bytes≤1000)))=some (some 1,1,true):=by kernel_rfl
theorem sizeXP:(Tryz.prog.info? 51).map (·.size)=some 1:=by kernel_rfl
theorem wpList_appendX {ops:Array Oper} {rest:List Oper} {A:Act} {Q:Exit→Act→World→Prop} {wx:World} (h:StX B G w v l) (hy:XAt w y.1 y.2) (hyo: ∀b,y.1.own b→¬ G b∧v.ownBlock≠some b)
   (hsz:l.length≤1000) (hB:B≤w.heap.size) (hG: ∀b,G b→b<w.heap.size) {dst:Option Tmp} {ty:TypeId} {pos:String} {after:Array Edge} {s u:Operand}
   (hwx:wx=w.alloc (.cells #[.pointer (some ⟨y.1.c,0,none⟩)] 51)) (hv:A.eval s=v) (hu:A.eval u= .slice (some ⟨w.heap.size,0,none⟩) 1 1)
   (hk: ∀v' w',StX B G w' v' (l++ [y])→Mod (fun b=>v.ownBlock=some b) w w'→wpList Tryz.prog ops Q rest (A.put dst v') w'):
   wpList Tryz.prog ops Q ({dst:=dst,op:= .call {callee:= .builtin .append,args:= #[s,u],argTypes:= #[79,79]},type:=ty,pos:=pos,after:=after,guard:=none}::rest) A wx:=by
 subst hwx
 obtain ⟨v',w',hr,ho,hm,hown⟩:=run_appendOff (P:=Tryz.prog) (t:=79) Tryz.underlying79 infoXP (ty:=ty) (u:=ptX y) h.off (by rw [List.length_map];omega) rfl
 have hoff: ∀r,v'.ownBlock=some r→v.ownBlock=some r∨w.heap.size≤r:=fun r hr=>by
   rcases hown with e|⟨r',e,hr'⟩
   · exact .inl (e ▸ hr)
   · rw [e] at hr
     cases hr
     exact .inr hr'
 refine wpList_exec rfl (v:=v') (w':=w') ?_ (hk v' w' ⟨by rw [List.map_append];exact ho,fun r hr=> ?_,fun r hr hg=> ?_,fun x hx=> ?_⟩ hm)
 · simp only [execOp,resolve,invoke,builtin,Sem.run_bind,Sem.run_pure,Result.andThen_ok,List.map_toArray,List.map_cons,List.map_nil,hv,hu]
   exact hr ▸ rfl
 · rcases hoff r hr with e|e
   · exact h.lo r e
   · omega
 · rcases hoff r hr with e|e
   · exact h.ap r e hg
   · have:=hG r hg
     omega
 · have hx':XAt w x.1 x.2∧ ∀b,x.1.own b→¬ G b∧v.ownBlock≠some b:=by
     rcases List.mem_append.1 hx with hx|hx
     · exact h.at_ x hx
     · rw [List.mem_singleton.1 hx]
       exact ⟨hy,hyo⟩
   refine ⟨hx'.1.mod hm fun b hb e=>(hx'.2 b hb).2 e,fun b hb=>⟨(hx'.2 b hb).1,fun e=> ?_⟩⟩
   rcases hoff b e with e|e
   · exact (hx'.2 b hb).2 e
   · have:=hx'.1.lt b hb
     omega
theorem StX.one (hy:XAt w y.1 y.2) (hw:w'=w.alloc (.cells #[.pointer (some ⟨y.1.c,0,none⟩)] 51)) (hB:B≤w.heap.size) (hG: ∀b,G b→b<w.heap.size) (hyo: ∀b,y.1.own b→¬ G b):StX B G w' (.slice (some ⟨w.heap.size,0,none⟩) 1 1) [y]:=by
 subst hw
 refine ⟨Off.one heap_alloc_at,fun r hr=> ?_,fun r hr e=> ?_,fun x hx=> ?_⟩
 · cases hr
   exact hB
 · cases hr
   exact absurd (hG _ e) (Nat.lt_irrefl _)
 · rw [List.mem_singleton.1 hx]
   refine ⟨hy.below ((Below.refl _ _).alloc (Nat.le_refl _) _),fun b hb=>⟨hyo b hb,fun e=> ?_⟩⟩
   cases e
   exact absurd (hy.lt _ hb) (Nat.lt_irrefl _)
end
end Go.Proofs.YtldimgchpgoggaaGreat
