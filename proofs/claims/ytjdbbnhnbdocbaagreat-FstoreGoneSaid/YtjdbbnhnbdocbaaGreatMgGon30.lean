import Derived.Test.YtjdbbnhnbdocbaaGreatMgGon21
import Derived.Test.YtjdbbnhnbdocbaaGreatMgGon29
import Derived.Test.YtjdbbnhnbdocbaaGreatMgGon22
import Derived.Test.YtjdbbnhnbdocbaaGreatMgGon12
import Derived.Test.YtjdbbnhnbdocbaaGreatMgGon24
import Derived.Test.YtjdbbnhnbdocbaaGreatMgGon28
namespace Go.Proofs.YtjdbbnhnbdocbaaGreat
open Go.RowKit Go.Tn Go.Tn.Bt Go.Tn.Lp Go.Tn.Dk
structure _root_.Go.Tn.Dk.Dsk.calm (d:Dsk):Prop where
 fuse:d.fused=false
 on:d.off=false
theorem _root_.Go.Tn.Dk.Dsk.calm.step {d:Dsk} (h:Dsk.calm d):d.step=d:=by
 unfold Dsk.step
 rw [if_pos (.inr h.fuse)]
theorem _root_.Go.Tn.Dk.Dsk.calm.dead {d:Dsk} (h:Dsk.calm d):d.dead=0:=by
 unfold Dsk.dead
 rw [h.step,if_neg (by rw [h.on];decide)]
theorem _root_.Go.Tn.Dk.Dsk.calm.write {d:Dsk} (h:Dsk.calm d) (i:Nat) (b:List Nat):d.write i b={d with Q:=d.Q++ [(i,b)]}:=by
 unfold Dsk.write
 rw [h.step,if_neg (by rw [h.on];decide)]
theorem _root_.Go.Tn.Dk.Dsk.calm.flush {d:Dsk} (h:Dsk.calm d):d.flush={d with L:=laid d.Q d.L,Q:= []}:=by
 unfold Dsk.flush
 rw [h.step,if_neg (by rw [h.on];decide)]
def homeQ (l:Lg) (ks:List Nat):List (Nat×List Nat):=ks.map fun k=>(2+l.n+k,(l.H k).getD [])
theorem bringGo_calm (l:Lg): ∀(ks:List Nat) (d:Dsk),Dsk.calm d→bringGo l ks d=({d with L:=laid (d.Q++homeQ l ks) d.L,Q:= []},0)
 | [],d,h=>by
  simp only [bringGo,homeQ,List.map_nil,List.append_nil]
  rw [h.flush,h.dead]
 | k::ks,d,h=>by
  have hc:Dsk.calm {d with Q:=d.Q++ [(2+l.n+k,(l.H k).getD [])]}:=⟨h.fuse,h.on⟩
  simp only [bringGo]
  rw [if_neg (by rw [h.dead];decide),h.write,bringGo_calm l ks _ hc]
  simp [homeQ]
theorem save_calm {d:Dsk} (h:Dsk.calm d) (a ep:Nat) (x:Hd):d.save a ep x=({d with L:=laid (d.Q++ [(a+x.gen %2,sealB (headPc ep x))]) d.L,Q:= []},0):=by
 have hc:Dsk.calm {d with Q:=d.Q++ [(a+x.gen %2,sealB (headPc ep x))]}:=⟨h.fuse,h.on⟩
 unfold Dsk.save
 rw [h.step,if_neg (by rw [h.on];decide),h.write,hc.flush,hc.dead]
theorem unpack_headD (t f:Nat):unpack (headD t f)=bitsN t 40++bitsN f 24:=by
 have hl:(bitsN t 40++bitsN f 24).length=64:=by rw [List.length_append,bitsN_len,bitsN_len]
 have hu:=unpack_pack (bitsN t 40++bitsN f 24)
 rw [hl] at hu
 exact hu.trans (List.append_nil _)
theorem headD_nums (t f:Nat):natOf ((unpack (headD t f)).take 40)=t %2 ^ 40∧natOf (((unpack (headD t f)).drop 40).take 24)=f %2 ^ 24:=by
 rw [unpack_headD]
 generalize ha:bitsN t 40=a
 generalize hb:bitsN f 24=b
 have la:a.length=40:=by rw [←ha,bitsN_len]
 have lb:b.length=24:=by rw [←hb,bitsN_len]
 have e1:(a++b).take 40=a:=by rw [←la,List.take_left]
 have e2:((a++b).drop 40).take 24=b:=by rw [←la,List.drop_left, ←lb,List.take_length]
 rw [e1,e2, ←ha, ←hb,natOf_bitsN,natOf_bitsN]
 exact ⟨rfl,rfl⟩
theorem headP_headPc {ep:Nat} {h:Hd} {i:Nat} (hi:h.gen %2=i):headP (headPc ep h) i=some ⟨h.gen,natOf ((unpack (headD h.tail h.floor)).take 40),natOf (((unpack (headD h.tail h.floor)).drop 40).take 24)⟩:=by
 have hc:(headPc ep h).fi=true∧(headPc ep h).la=true∧(headPc ep h).ct %2=i∧(headPc ep h).da.length=8:=⟨rfl,rfl,hi,headD_len _ _⟩
 unfold headP
 rw [if_pos hc]
 rfl
theorem hdB_of {bs:List Nat} {p:Pc} (h:unsealB bs=some p) (i:Nat):hdB bs i=headP p i:=by
 unfold hdB
 rw [h]
theorem headP_some {ep:Nat} {g t f:Nat} (ht:t<2 ^ 40) (hf:f<2 ^ 24) {i:Nat} (hi:g %2=i):headP (headPc ep ⟨g,t,f⟩) i=some ⟨g,t,f⟩:=by
 obtain ⟨h1,h2⟩:=headD_nums t f
 rw [Nat.mod_eq_of_lt ht] at h1
 rw [Nat.mod_eq_of_lt hf] at h2
 have hp:=headP_headPc (ep:=ep) (h:=⟨g,t,f⟩) hi
 simp only at hp
 rw [h1,h2] at hp
 exact hp
theorem hd_seal {ep:Nat} {g t f:Nat} (he:ep≤16777215) (hg:g≤1099511627775) (ht:t<2 ^ 40) (hf:f<2 ^ 24) {i:Nat} (hi:g %2=i):hdB (sealB (headPc ep ⟨g,t,f⟩)) i=some ⟨g,t,f⟩:=
 (hdB_of (unseal_seal (headPc_ok he hg)) i).trans (headP_some ht hf hi)
theorem newer_le {a b:Option Hd} {z:Hd} (h:newer a b=some z):(∀x,a=some x→x.gen≤z.gen)∧ ∀y,b=some y→y.gen≤z.gen:=by
 unfold newer at h
 cases b with
 | none=>
  simp only at h
  subst h
  exact ⟨fun x hx=>(by cases hx;exact Nat.le_refl _),fun y hy=>(by cases hy)⟩
 | some y=>
  simp only at h
  cases a with
  | none=>
   simp only at h
   cases h
   exact ⟨fun x hx=>(by cases hx),fun y hy=>(by cases hy;exact Nat.le_refl _)⟩
  | some x=>
   simp only at h
   split at h
   ·cases h
    exact ⟨fun x hx=>(by cases hx;omega),fun y hy=>(by cases hy;exact Nat.le_refl _)⟩
   ·cases h
    exact ⟨fun x hx=>(by cases hx;exact Nat.le_refl _),fun y hy=>(by cases hy;omega)⟩
theorem newer_none {a b:Option Hd} (h:newer a b=none):a=none∧b=none:=by
 unfold newer at h
 cases b with
 | none=>exact ⟨h,rfl⟩
 | some y=>
  cases a with
  | none=>cases h
  | some x=>
   simp only at h
   split at h<;>cases h
theorem HeadIs.le {d:Dsk} {gen tail F:Nat} (h:HeadIs d gen tail F): ∀i,i<2→ ∀x,hdB (d.get i) i=some x→x.gen≤gen:=by
 have key:(∀x,hdB (d.get 0) 0=some x→x.gen≤gen)∧ ∀x,hdB (d.get 1) 1=some x→x.gen≤gen:=by
  rcases h with ⟨h, -⟩|⟨h, -⟩
  ·exact newer_le (z:=⟨gen,tail,F⟩) h
  ·obtain ⟨h1,h2⟩:=newer_none (a:=hdB (d.get 0) 0) (b:=hdB (d.get (0+1)) 1) h
   exact ⟨fun x hx=>(by rw [h1] at hx;cases hx),fun x hx=>(by rw [show d.get 1=d.get (0+1) from rfl,h2] at hx;cases hx)⟩
 intro i hi
 match i,hi with
 | 0,_=>exact key.1
 | 1,_=>exact key.2
theorem HeadIs.save {d d':Dsk} {gen tail F ep nt:Nat} (h:HeadIs d gen tail F) (he:ep≤16777215) (hg:gen+1≤1099511627775) (ht:nt<2 ^ 40)
  (h1:d'.get ((gen+1) %2)=sealB (headPc ep ⟨gen+1,nt,ep⟩)) (h2: ∀i,i<2→i≠(gen+1) %2→d'.get i=d.get i):HeadIs d' (gen+1) nt ep:=by
 have hs:=hd_seal (ep:=ep) (g:=gen+1) (t:=nt) (f:=ep) he hg ht (Nat.lt_of_le_of_lt he (by decide)) (i:=(gen+1) %2) rfl
 have hlt:=Nat.mod_lt (gen+1) (show 0<2 by decide)
 refine .inl ⟨?_,h1⟩
 have hl:=h.le
 show newer (hdB (d'.get 0) 0) (hdB (d'.get 1) 1)=_
 by_cases hp:(gen+1) %2=0
 ·rw [hp] at h1 hs h2
  rw [h1,hs,h2 1 (by decide) (by decide)]
  cases hb:hdB (d.get 1) 1 with
  | none=>rfl
  | some y=>
   have:=hl 1 (by decide) y hb
   unfold newer
   simp only
   rw [if_neg (by omega)]
 ·have hp1:(gen+1) %2=1:=by omega
  rw [hp1] at h1 hs h2
  rw [h1,hs,h2 0 (by decide) (by decide)]
  cases hb:hdB (d.get 0) 0 with
  | none=>rfl
  | some y=>
   have:=hl 0 (by decide) y hb
   unfold newer
   simp only
   rw [if_pos (by omega)]
theorem keys_seen {l:Lg} (ks:List Nat) (hks: ∀k∈ks, ∃b,l.H k=some b) (k:Nat) (s:List Nat):seenQ (homeQ l ks) (2+l.n+k) s=if k∈ks then (l.H k).getD [] else s:=by
 by_cases hk:k∈ks
 ·rw [if_pos hk]
  obtain ⟨x,hx,h1,h2⟩:=seen_some (homeQ l ks) (2+l.n+k) s ⟨_,List.mem_map.2 ⟨k,hk,rfl⟩,rfl⟩
  obtain ⟨j,hj,rfl⟩:=List.mem_map.1 hx
  rw [h2]
  simp only at h1
  rw [show j=k by omega]
 ·rw [if_neg hk]
  refine seen_no _ _ _ fun x hx=> ?_
  obtain ⟨j,hj,rfl⟩:=List.mem_map.1 hx
  simp only
  intro e
  exact hk (by rw [show k=j by omega];exact hj)
theorem homeQ_low {l:Lg} (ks:List Nat) {i:Nat} (hi:i<2+l.n) (s:List Nat):seenQ (homeQ l ks) i s=s:=by
 refine seen_no _ _ _ fun x hx=> ?_
 obtain ⟨j,hj,rfl⟩:=List.mem_map.1 hx
 simp only
 omega
theorem Base.freed {d d':Dsk} {l:Lg} {F:Nat} {D:List Rc} (h:Base d l F D) (hok:l.fit d) (hd:d.ok) (hnx:l.next=endCt l.tail D) (hsm:l.next<1099511627776) (hg:l.gen+1≤1099511627775) (hL:d'.L.length=d.L.length)
  (h1:d'.get ((l.gen+1) %2)=sealB (headPc l.epoch ⟨l.gen+1,l.next,l.epoch⟩)) (h2: ∀i,i<2+l.n→i≠(l.gen+1) %2→d'.get i=d.get i) (H':Nat→Option (List Nat)) (e:Nat):
  Base d' {l with gen:=l.gen+1,tail:=l.next,H:=H',err:=e} l.epoch []:=by
 have hlt:=Nat.mod_lt (l.gen+1) (show 0<2 by decide)
 have hn2:=hok.n2
 refine ⟨h.hd.save hok.epoch hg hsm h1 (fun i hi hne=>h2 i (by omega) hne),trivial,(fun q hq=>by cases hq),Nat.le_add_right _ _,Nat.le_refl _, .inl rfl,fun c q c1 c2 hq=> ?_⟩
 have c1:l.next≤c:=c1
 have c2:c<l.next+l.n:=c2
 have hq:pieceB d' l.n c=some q:=hq
 show q.ep<l.epoch
 have hge:d'.get (2+c %l.n)=d.get (2+c %l.n):=h2 _ (by have:=Nat.mod_lt c (show 0<l.n by omega);omega) (by omega)
 rw [pieceB_same hge] at hq
 by_cases hc:c<l.tail+l.n
 ·exact h.old c q (by omega) hc hq
 ·exfalso
  have h3:=hok.tail
  have h4:=hok.next
  obtain ⟨q',hq',hct⟩:=allPcs_all D l.tail (c-l.n) (by omega) (by omega)
  have hs:=h.slots q' hq'
  have hsl:(c-l.n) %l.n=c %l.n:=by
   conv=>rhs;rw [show c=c-l.n+l.n by omega]
   rw [Nat.add_mod_right]
  rw [hct,hsl] at hs
  have hok':=rise_ok D _ _ h.rise q' hq'
  obtain ⟨hg2,hct2⟩:=pieceB_get hq
  have:some q'=some q:=by
   have hu:=unseal_seal hok'
   have hu2:=congrArg unsealB hg2
   rw [hs,hu] at hu2
   have hqok:=(pieceB_ok (n:=l.n) hd (by omega) (by have:=hok.nd;omega) hq).1
   rw [unseal_seal hqok] at hu2
   exact hu2
  cases this
  omega
theorem putPcs_calm (n:Nat): ∀(ps:List Pc) (d:Dsk),Dsk.calm d→putPcs n ps d=({d with Q:=d.Q++ringQ n ps},0)
 | [],d,_=>by simp [putPcs,ringQ]
 | q::r,d,h=>by
  have hc:Dsk.calm {d with Q:=d.Q++ [(2+q.ct %n,sealB q)]}:=⟨h.fuse,h.on⟩
  simp only [putPcs]
  rw [if_neg (by rw [h.dead];decide),h.write,putPcs_calm n r _ hc]
  simp [ringQ]
theorem write_full {l:Lg} {d:Dsk} {ps:List Pt} (he:l.err=0) (ht:transB ps (l.homes d)=true) {pcs:List Pc} (hc:cutB l.epoch l.next (recB ps)= .ok pcs) (hf:l.free<pcs.length):l.write d ps=(l,d,8):=by
 unfold Lg.write
 rw [if_neg (by omega),if_neg (by rw [ht];decide),hc]
 simp only
 rw [if_pos hf]
theorem write_arg {l:Lg} {d:Dsk} {ps:List Pt} (he:l.err=0) (ht:transB ps (l.homes d)=false):l.write d ps=(l,d,2):=by
 unfold Lg.write
 rw [if_neg (by omega),if_pos ht]
theorem cut_ok {ps:List Pt} {homes ep ct:Nat} (ht:transB ps homes=true) (he:ep≤16777215) (hc:ct+1000≤1099511627775):cutB ep ct (recB ps)= .ok (cutL ep ct (recB ps)):=by
 have hl:=recB_le ht
 unfold cutB
 rw [if_neg (by unfold cutN;omega),if_neg (by omega)]
theorem recN {ps:List Pt} {homes:Nat} (ht:transB ps homes=true):cutN (recB ps)=((recB ps).length+105)/106∧1≤((recB ps).length+105)/106∧(recB ps).length≤4000:=by
 have h1:=(transB_iff ps homes).1 ht
 have h2:=recB_len fun p hp=>(h1.2.2.1 p hp).2.2
 have h3:=recB_le ht
 unfold cutN
 omega
theorem mem_keys' {l:Lg} {d:Dsk} {k:Nat} (hk:k<l.homes d):k∈l.keys d↔ ∃b,l.H k=some b:=by
 unfold Lg.keys
 rw [List.mem_filter,List.mem_range]
 exact ⟨fun h=>Option.isSome_iff_exists.1 h.2,fun h=>⟨hk,Option.isSome_iff_exists.2 h⟩⟩
theorem homes_write {l l':Lg} {d d':Dsk} {ps:List Pt} {pcs:List Pc} (hn2:2≤l.n) (hn:l'.n=l.n) (hH:l'.H=takeH l.H ps) (hL:d'.L=d.L) (hQ:d'.Q=d.Q++ringQ l.n pcs) (k:Nat):
  l'.home d' k=(takeH l.H ps k).getD (d.get (2+l.n+k)):=by
 have hg:d'.get (2+l.n+k)=d.get (2+l.n+k):=by
  unfold Dsk.get
  rw [hL,hQ,seen_append]
  refine seen_no _ _ _ fun x hx=> ?_
  obtain ⟨q,_,rfl⟩:=List.mem_map.1 hx
  have:=Nat.mod_lt q.ct (show 0<l.n by omega)
  simp only
  omega
 unfold Lg.home
 rw [hn,hH,hg]
 cases takeH l.H ps k<;>rfl
end Go.Proofs.YtjdbbnhnbdocbaaGreat
namespace Go.Tn.Dk
open Go.Tn Go.Tn.Lp
def keptN (n i:Nat) (keep:List Int) (torn:Int):Nat:=if i+1=n∧0<torn∧torn<128 then torn.toNat else if i<keep.length∧keep.getD i 0≠0 then 128 else 0
def crashL (n:Nat) (keep:List Int) (torn:Int):Nat→List (Nat×List Nat)→List (List Nat)→List (List Nat)
 | _, [],L=>L
 | i,q::Q,L=>crashL n keep torn (i+1) Q (L.set q.1 (tornB (keptN n i keep torn) q.2 (L.getD q.1 [])))
def Dsk.crash (d:Dsk) (keep:List Int) (torn:Int):Dsk:={d with L:=crashL d.Q.length keep torn 0 d.Q d.L,Q:= [],fused:=false,off:=false}
theorem crashL_len (n:Nat) (keep:List Int) (torn:Int): ∀(Q:List (Nat×List Nat)) (i:Nat) (L:List (List Nat)),(crashL n keep torn i Q L).length=L.length
 | [],_,_=>rfl
 | q::Q,i,L=>by
  simp only [crashL]
  rw [crashL_len n keep torn Q,List.length_set]
theorem set_getD {L:List (List Nat)} {a i:Nat} {b:List Nat} (h:a≠i):(L.set a b).getD i []=L.getD i []:=by
 rw [List.getD_eq_getElem?_getD,List.getElem?_set_ne h, ←List.getD_eq_getElem?_getD]
theorem crash_no (n:Nat) (keep:List Int) (torn:Int): ∀(Q:List (Nat×List Nat)) (i:Nat) (L:List (List Nat)) (s:Nat),(∀q∈Q,q.1≠s)→(crashL n keep torn i Q L).getD s []=L.getD s []
 | [],_,_,_,_=>rfl
 | q::Q,i,L,s,h=>by
  simp only [crashL]
  rw [crash_no n keep torn Q _ _ s fun x hx=>h x (List.mem_cons_of_mem _ hx),set_getD (h q List.mem_cons_self)]
theorem crash_one (n:Nat) (keep:List Int) (torn:Int): ∀(Q:List (Nat×List Nat)) (i:Nat) (L:List (List Nat)) (q:Nat×List Nat),q∈Q→(Q.map (·.1)).Nodup→q.1<L.length→ ∃k,(crashL n keep torn i Q L).getD q.1 []=tornB k q.2 (L.getD q.1 [])
 | x::Q,i,L,q,hq,hnd,hl=>by
  simp only [crashL]
  rw [List.map_cons,List.nodup_cons] at hnd
  rcases List.mem_cons.1 hq with rfl|hq
  ·refine ⟨keptN n i keep torn,?_⟩
   rw [crash_no n keep torn Q _ _ q.1 fun y hy e=>hnd.1 (List.mem_map.2 ⟨y,hy,e⟩)]
   rw [List.getD_eq_getElem?_getD,List.getElem?_set_self hl]
   rfl
  ·have hne:x.1≠q.1:=fun e=>hnd.1 (List.mem_map.2 ⟨q,hq,e.symm⟩)
   obtain ⟨k,hk⟩:=crash_one n keep torn Q (i+1) (L.set x.1 (tornB (keptN n i keep torn) x.2 (L.getD x.1 []))) q hq hnd.2 (by rw [List.length_set];exact hl)
   exact ⟨k,by rw [hk,set_getD hne]⟩
theorem crash_get (d:Dsk) (keep:List Int) (torn:Int) (i:Nat):(d.crash keep torn).get i=(crashL d.Q.length keep torn 0 d.Q d.L).getD i []:=rfl
theorem crash_L (d:Dsk) (keep:List Int) (torn:Int):(d.crash keep torn).L.length=d.L.length:=crashL_len _ _ _ _ _ _
end Go.Tn.Dk
namespace Go.Proofs.YtjdbbnhnbdocbaaGreat
open Go.RowKit Go.Tn Go.Tn.Bt Go.Tn.Lp Go.Tn.Dk
theorem behind_append (l:Lg) (a b:List Rc):Lg.behind (Lg.behind l a) b=Lg.behind l (a++b):=by
 unfold Lg.behind
 simp only
 rw [applyH_append,endCt_append]
theorem pcs_byte {homes E:Nat}: ∀(rs:List Rc) (ct:Nat),Goods homes E ct rs→ ∀q∈allPcs ct rs,q.ok∧(∀x∈q.da,x<256)∧q.ep=E
 | [],_,_,q,h=>by cases h
 | r::rs,ct,⟨h1,h2,h3⟩,q,h=>by
  rcases List.mem_append.1 h with h|h
  ·refine ⟨h2.ok q h,?_,?_⟩
   ·exact cutL_lt (recB_lt _) _ _ q h
   ·obtain ⟨i,_,rfl⟩:=mem_pcs h
    exact h1
  ·exact pcs_byte rs _ h3 q h
structure Keep (d:Dsk) (l:Lg):Prop where
 sect: ∀i,i<2+l.n→Sect l.epoch (d.get i)
 hdct: ∀i,i<2→ ∀p,unsealB (d.get i)=some p→p.ep=l.epoch→p.ct≤l.gen
 ep:l.epoch<65536
structure Says (d:Dsk) (n gen tail F:Nat) (D:List Rc):Prop where
 hd:HeadIs d gen tail F
 rise:Rise (d.L.length-2-n) tail F D
 slots: ∀q∈allPcs tail D,d.get (2+q.ct %n)=sealB q
 room:endCt tail D≤tail+n
 stop: ∀E,stepB d (Lg.behind (log0 n E gen tail) D) (lastF F D)=none
theorem Base.says {d:Dsk} {l:Lg} {F:Nat} {D:List Rc} (h:Base d l F D):Says d l.n l.gen l.tail F D:=
 ⟨h.hd,h.rise,h.slots,h.room,fun E=>stepB_epoch (l:=Lg.behind (log0 l.n l.epoch l.gen l.tail) D) (l':=Lg.behind (log0 l.n E l.gen l.tail) D) rfl rfl rfl (base_stop h (by have:=endCt_le D l.tail;omega))⟩
theorem Says.same {d d':Dsk} {n gen tail F:Nat} {D:List Rc} (h:Says d n gen tail F D) (hn:2≤n) (hL:d'.L.length=d.L.length) (hs: ∀i,i<2+n→d'.get i=d.get i):Says d' n gen tail F D:=by
 have hlt: ∀c,2+c %n<2+n:=fun c=>by have:=Nat.mod_lt c (show 0<n by omega);omega
 refine ⟨h.hd.same fun i hi=>hs i (by omega),by rw [hL];exact h.rise,fun q hq=>(hs _ (hlt _)).trans (h.slots q hq),h.room,fun E=> ?_⟩
 refine stepB_same' (l:=Lg.behind (log0 n E gen tail) D) hL (by have:=endCt_le D tail;show tail≤endCt tail D;omega) (fun c _ _=>pieceB_same (hs _ (hlt c))) (h.stop E)
theorem ring_nodup {n t:Nat}: ∀(ps:List Pc),(ps.map (·.ct)).Nodup→(∀q∈ps,t≤q.ct∧q.ct<t+n)→((ringQ n ps).map (·.1)).Nodup
 | [],_,_=>List.nodup_nil
 | p::ps,hnd,h=>by
  rw [List.map_cons,List.nodup_cons] at hnd
  have ih:=ring_nodup ps hnd.2 fun q hq=>h q (List.mem_cons_of_mem _ hq)
  show ((2+p.ct %n)::(ringQ n ps).map (fun x=>x.1)).Nodup
  refine List.nodup_cons.2 ⟨fun hm=> ?_,ih⟩
  obtain ⟨x,hx,he⟩:=List.mem_map.1 hm
  obtain ⟨q,hq,rfl⟩:=List.mem_map.1 hx
  have h1:=h p List.mem_cons_self
  have h2:=h q (List.mem_cons_of_mem _ hq)
  simp only at he
  have:=mod_inj h1.1 h1.2 h2.1 h2.2 (show p.ct %n=q.ct %n by omega)
  exact hnd.1 (by rw [this];exact List.mem_map.2 ⟨q,hq,rfl⟩)
theorem pcs_nodup: ∀(rs:List Rc) (ct:Nat),((allPcs ct rs).map (·.ct)).Nodup
 | [],_=>List.nodup_nil
 | r::rs,ct=>by
  show ((r.pcs ct++allPcs (ct+r.n) rs).map (·.ct)).Nodup
  rw [List.map_append]
  refine List.pairwise_append.2 ⟨?_,pcs_nodup rs _,fun a ha b hb e=> ?_⟩
  ·unfold Rc.pcs cutL
   rw [List.map_map]
   refine List.pairwise_map.2 ((List.nodup_range (n:=cutN (recB r.ps))).imp fun h e=>h ?_)
   simp only [Function.comp,pieceAt] at e
   omega
  ·obtain ⟨p,hp,rfl⟩:=List.mem_map.1 ha
   obtain ⟨q,hq,rfl⟩:=List.mem_map.1 hb
   obtain ⟨i,hi,rfl⟩:=mem_pcs hp
   have:=(allPcs_ct rs _ q hq).1
   simp only [pieceAt] at e
   omega
theorem crash_ring {d:Dsk} {l:Lg} {F:Nat} {D P:List Rc} {m:Nat} {keep:List Int} {torn:Int} (hb:Base d.last l F D) (hk:Keep d.last l) (hfit:l.fit d) (hd:d.ok) (hg:Goods (l.homes d) l.epoch (endCt l.tail D) P) (hroom:endCt (endCt l.tail D) P≤l.tail+l.n)
  (hQ:d.Q=ringQ l.n ((allPcs (endCt l.tail D) P).take m)):
  (∃j,j≤P.length∧Says (d.crash keep torn) l.n l.gen l.tail F (D++P.take j))∧(∀i,i<2+l.n→SectA (l.epoch/256*256+255) ((d.crash keep torn).get i))∧ ∀k,(d.crash keep torn).get (2+l.n+k)=d.last.get (2+l.n+k):=by
 have hn2:=hfit.n2
 have hnd:=hfit.nd
 have hL:=crash_L d keep torn
 have hlt: ∀c,2+c %l.n<2+l.n:=fun c=>by have:=Nat.mod_lt c (show 0<l.n by omega);omega
 have htc:=endCt_le D l.tail
 have hmem: ∀q∈(allPcs (endCt l.tail D) P).take m,q∈allPcs (endCt l.tail D) P:=fun q hq=>List.mem_of_mem_take hq
 have hct: ∀q∈(allPcs (endCt l.tail D) P).take m,l.tail≤q.ct∧q.ct<l.tail+l.n:=fun q hq=>by
  have:=allPcs_ct P _ q (hmem q hq)
  omega
 have hnodup:(d.Q.map (·.1)).Nodup:=by
  rw [hQ]
  exact ring_nodup _ (by rw [List.map_take];exact (pcs_nodup P _).sublist (List.take_sublist _ _)) hct
 -- a sector that nobody waits for
 have hno: ∀i,(∀q∈(allPcs (endCt l.tail D) P).take m,2+q.ct %l.n≠i)→(d.crash keep torn).get i=d.last.get i:=fun i hi=>by
  rw [crash_get,crash_no]
  ·rfl
  ·intro x hx
   rw [hQ] at hx
   obtain ⟨q,hq,rfl⟩:=List.mem_map.1 hx
   exact hi q hq
 have hone: ∀q∈(allPcs (endCt l.tail D) P).take m, ∃k,(d.crash keep torn).get (2+q.ct %l.n)=tornB k (sealB q) (d.last.get (2+q.ct %l.n)):=fun q hq=>by
  have hx:(2+q.ct %l.n,sealB q)∈d.Q:=by rw [hQ];exact List.mem_map.2 ⟨q,hq,rfl⟩
  obtain ⟨k,hk⟩:=crash_one d.Q.length keep torn d.Q 0 d.L _ hx hnodup (by have:=hlt q.ct;simp only;omega)
  exact ⟨k,hk⟩
 have hpb:=pcs_byte P _ hg
 refine ⟨?_,fun i hi=> ?_,fun k=>hno _ fun q hq=>by have:=hlt q.ct;omega⟩
 ·have hM: ∀c,endCt l.tail D≤c→c<l.tail+l.n→pieceB (d.crash keep torn) l.n c=pieceB d.last l.n c∨pieceB (d.crash keep torn) l.n c=none∨ ∃q∈allPcs (endCt l.tail D) P,q.ct=c∧pieceB (d.crash keep torn) l.n c=some q:=by
   intro c h1 h2
   by_cases hc: ∃q∈(allPcs (endCt l.tail D) P).take m,q.ct=c
   ·obtain ⟨q,hq,rfl⟩:=hc
    obtain ⟨hqo,hqb,hqe⟩:=hpb q (hmem q hq)
    obtain ⟨k,hk'⟩:=hone q hq
    rcases torn_or (k:=k) (hk.sect _ (hlt q.ct)) hk.ep hqo hqb hqe (fun p hp hpe hpc=>by
     have:pieceB d.last l.n q.ct=some p:=by
      unfold pieceB
      rw [hp]
      simp only
      rw [if_pos hpc]
     have:=hb.old q.ct p h1 h2 this
     omega) with h|h|h
    ·right;left
     unfold pieceB
     rw [hk',h]
    ·left
     exact pieceB_same (hk'.trans h)
    ·right;right
     exact ⟨q,hmem q hq,rfl,pieceB_seal hqo (hk'.trans h)⟩
   ·left
    refine pieceB_same (hno _ fun q hq e=>hc ⟨q,hq,?_⟩)
    have h3:=hct q hq
    exact mod_inj (t:=l.tail) h3.1 h3.2 (by omega) h2 (by omega)
  have hmx:=mix_chain (d:=d.last) (d':=d.crash keep torn) (E:=l.epoch) hL P (Lg.behind (log0 l.n l.epoch l.gen l.tail) D) (lastF F D) (homes_le (d:=d) hd) hg (by show l.tail≤endCt l.tail D;omega) hroom hb.fle hb.stop hb.old hM
  obtain ⟨j,hj,hch,hst⟩:=hmx
  refine ⟨j,hj,?_⟩
  have hch2:=(chain_iff _ _ _ _ _ _).1 hch
  have hhom:(d.crash keep torn).L.length-2-l.n=l.homes d.last:=by rw [hL];rfl
  have hjle:endCt (endCt l.tail D) (P.take j)≤endCt (endCt l.tail D) P:=by
   conv=>rhs;rw [←List.take_append_drop j P]
   rw [endCt_append]
   have:=endCt_le (P.drop j) (endCt (endCt l.tail D) (P.take j))
   omega
  refine ⟨hb.hd.same fun i hi=>hno i fun q hq=>by omega,?_,fun q hq=> ?_,?_,fun E=> ?_⟩
  ·rw [hhom,rise_append]
   exact ⟨hb.rise,hch2.1⟩
  ·rw [allPcs_append] at hq
   rcases List.mem_append.1 hq with hq|hq
   ·have h4:=allPcs_ct D _ q hq
    rw [hno _ fun p hp e=> ?_]
    ·exact hb.slots q hq
    ·have h5:=hct p hp
     have h6:=(allPcs_ct P _ p (hmem p hp)).1
     have:=mod_inj (t:=l.tail) h5.1 h5.2 h4.1 (by have:=hb.room;omega) (show p.ct %l.n=q.ct %l.n by omega)
     omega
   ·exact hch2.2 q hq
  ·rw [endCt_append]
   omega
  ·rw [lastF_append]
   rw [behind_append] at hst
   exact stepB_epoch (l:=Lg.behind (log0 l.n l.epoch l.gen l.tail) (D++P.take j)) (l':=Lg.behind (log0 l.n E l.gen l.tail) (D++P.take j)) rfl rfl rfl hst
 ·have hep:=hk.ep
  by_cases hc: ∃q∈(allPcs (endCt l.tail D) P).take m,2+q.ct %l.n=i
  ·obtain ⟨q,hq,rfl⟩:=hc
   obtain ⟨k,hk'⟩:=hone q hq
   obtain ⟨hqo,hqb,hqe⟩:=hpb q (hmem q hq)
   rw [hk']
   exact torn_ends (hk.sect _ hi).a hep hqo hqb hqe
  ·rw [hno i fun q hq e=>hc ⟨q,hq,e⟩]
   exact (hk.sect i hi).a.mono (by omega)
theorem crash_homes {d:Dsk} {l:Lg} {F:Nat} {D:List Rc} {keep:List Int} {torn:Int} (hb:Base d.last l F D) (hk:Keep d.last l) (hn2:2≤l.n) (hQ: ∀x∈d.Q, ∃k b,x.1=2+l.n+k∧l.H k=some b):
  Says (d.crash keep torn) l.n l.gen l.tail F D∧(∀i,i<2+l.n→SectA (l.epoch/256*256+255) ((d.crash keep torn).get i))∧ ∀k,l.H k=none→(d.crash keep torn).get (2+l.n+k)=d.last.get (2+l.n+k):=by
 have hno: ∀i,(∀x∈d.Q,x.1≠i)→(d.crash keep torn).get i=d.last.get i:=fun i hi=>by
  rw [crash_get,crash_no _ _ _ _ _ _ _ hi]
  rfl
 have hlow: ∀i,i<2+l.n→(d.crash keep torn).get i=d.last.get i:=fun i hi=>hno i fun x hx=>by
  obtain ⟨k,b,h1, -⟩:=hQ x hx
  omega
 refine ⟨hb.says.same hn2 (crash_L d keep torn) hlow,fun i hi=> ?_,fun k hkn=>hno _ fun x hx=> ?_⟩
 ·rw [hlow i hi]
  exact (hk.sect i hi).a.mono (by omega)
 ·obtain ⟨j,b,h1,h2⟩:=hQ x hx
  intro e
  have:j=k:=by omega
  rw [this,hkn] at h2
  cases h2
theorem hdB_none {b:List Nat} {i:Nat} (h:unsealB b=none):hdB b i=none:=by
 unfold hdB
 rw [h]
theorem hdB_at {b:List Nat} {i:Nat} {h:Hd} (hh:hdB b i=some h):h.gen %2=i:=by
 unfold hdB at hh
 split at hh
 ·rename_i p hp
  unfold headP at hh
  split at hh
  ·rename_i hc
   cases hh
   exact hc.2.2.1
  ·cases hh
 ·cases hh
theorem newer_or {a b:Option Hd} {z:Hd} (h:newer a b=some z):a=some z∨b=some z:=by
 unfold newer at h
 cases b with
 | none=>exact .inl h
 | some y=>
  cases a with
  | none=>exact .inr h
  | some x=>
   simp only at h
   split at h
   ·exact .inr h
   ·exact .inl h
theorem HeadIs.spoilt {d d':Dsk} {gen tail F:Nat} (h:HeadIs d gen tail F) (h1:unsealB (d'.get ((gen+1) %2))=none) (h2: ∀i,i<2→i≠(gen+1) %2→d'.get i=d.get i):HeadIs d' gen tail F:=by
 have hn:=hdB_none (i:=(gen+1) %2) h1
 rcases h with ⟨hh,hs⟩|⟨hh,hz⟩
 ·have hnew:newer (hdB (d.get 0) 0) (hdB (d.get 1) 1)=some ⟨gen,tail,F⟩:=hh
  have hg2:d'.get (gen %2)=d.get (gen %2):=h2 _ (Nat.mod_lt _ (by decide)) (by omega)
  refine .inl ⟨?_,by rw [hg2];exact hs⟩
  show newer (hdB (d'.get 0) 0) (hdB (d'.get 1) 1)=some ⟨gen,tail,F⟩
  rcases newer_or hnew with h3|h3
  ·have e:gen %2=0:=hdB_at h3
   rw [show (gen+1) %2=1 by omega] at hn h2
   rw [hn,h2 0 (by decide) (by decide),h3]
   rfl
  ·have e:gen %2=1:=hdB_at h3
   rw [show (gen+1) %2=0 by omega] at hn h2
   rw [hn,h2 1 (by decide) (by decide),h3]
   rfl
 ·have hnew:newer (hdB (d.get 0) 0) (hdB (d.get 1) 1)=none:=hh
  obtain ⟨n1,n2⟩:=newer_none hnew
  refine .inr ⟨?_,hz⟩
  show newer (hdB (d'.get 0) 0) (hdB (d'.get 1) 1)=none
  by_cases e:(gen+1) %2=0
  ·rw [e] at hn h2
   rw [hn,h2 1 (by decide) (by decide),n2]
   rfl
  ·have e:(gen+1) %2=1:=by omega
   rw [e] at hn h2
   rw [hn,h2 0 (by decide) (by decide),n1]
   rfl
theorem crash_head {d:Dsk} {l:Lg} {F:Nat} {D:List Rc} {keep:List Int} {torn:Int} (hb:Base d.last l F D) (hk:Keep d.last l) (hfit:l.fit d) (hd:d.ok) (hnx:l.next=endCt l.tail D) (hsm:l.next<1099511627776) (hg:l.gen+1≤1099511627775)
  (hQ:d.Q= [((l.gen+1) %2,sealB (headPc l.epoch ⟨l.gen+1,l.next,l.epoch⟩))]):
  (Says (d.crash keep torn) l.n l.gen l.tail F D∨Says (d.crash keep torn) l.n (l.gen+1) l.next l.epoch [])∧(∀i,i<2+l.n→SectA (l.epoch/256*256+255) ((d.crash keep torn).get i))∧ ∀i,2≤i→(d.crash keep torn).get i=d.last.get i:=by
 have hn2:=hfit.n2
 have hnd:=hfit.nd
 have hlt:=Nat.mod_lt (l.gen+1) (show 0<2 by decide)
 have hno: ∀i,i≠(l.gen+1) %2→(d.crash keep torn).get i=d.last.get i:=fun i hi=>by
  rw [crash_get,crash_no _ _ _ _ _ _ _ fun x hx=> ?_]
  ·rfl
  ·rw [hQ,List.mem_singleton] at hx
   rw [hx]
   exact fun e=>hi e.symm
 have hokq:(headPc l.epoch ⟨l.gen+1,l.next,l.epoch⟩).ok:=headPc_ok hfit.epoch hg
 have hbq: ∀x∈(headPc l.epoch ⟨l.gen+1,l.next,l.epoch⟩).da,x<256:=pack_lt _
 obtain ⟨k,hk'⟩:=crash_one d.Q.length keep torn d.Q 0 d.L ((l.gen+1) %2,sealB (headPc l.epoch ⟨l.gen+1,l.next,l.epoch⟩)) (by rw [hQ];exact List.mem_singleton.2 rfl) (by rw [hQ];simp) (by simp only;omega)
 have hone:(d.crash keep torn).get ((l.gen+1) %2)=tornB k (sealB (headPc l.epoch ⟨l.gen+1,l.next,l.epoch⟩)) (d.last.get ((l.gen+1) %2)):=hk'
 refine ⟨?_,fun i hi=> ?_,fun i hi=>hno i (by omega)⟩
 ·rcases torn_or (k:=k) (hk.sect ((l.gen+1) %2) (by omega)) hk.ep hokq hbq rfl (fun p hp hpe=>by
   have:=hk.hdct _ hlt p hp hpe
   have e:(headPc l.epoch ⟨l.gen+1,l.next,l.epoch⟩).ct=l.gen+1:=rfl
   rw [e]
   omega) with h|h|h
  ·left
   have hs:=hb.says
   refine ⟨hs.hd.spoilt (by rw [hone];exact h) fun i _ hi=>hno i hi,by rw [crash_L];exact hs.rise,fun q hq=> ?_,hs.room,fun E=> ?_⟩
   ·rw [hno (2+q.ct %l.n) (by omega)]
    exact hs.slots q hq
   ·refine stepB_same' (l:=Lg.behind (log0 l.n E l.gen l.tail) D) (d:=d.last) (crash_L d keep torn) (by have:=endCt_le D l.tail;show l.tail≤endCt l.tail D;omega) (fun c _ _=>pieceB_same (hno (2+c %l.n) (by omega))) (hs.stop E)
  ·left
   refine hb.says.same hn2 (crash_L d keep torn) fun i _=> ?_
   by_cases hi:i=(l.gen+1) %2
   ·rw [hi,hone,h]
   ·exact hno i hi
  ·right
   have:=Base.freed (d:=d.last) (d':=d.crash keep torn) hb (hfit.disk rfl) ⟨hd.lo,hd.hi,hd.sec,(fun q hq=>by cases hq),Nat.zero_le _,hd.fuse⟩ hnx hsm hg (crash_L d keep torn) (by rw [hone,h]) (fun i _ hi=>hno i hi) (fun _=>none) 0
   exact this.says
 ·by_cases hi2:i=(l.gen+1) %2
  ·rw [hi2,hone]
   exact torn_ends (hk.sect ((l.gen+1) %2) (by omega)).a hk.ep hokq hbq rfl
  ·rw [hno i hi2]
   exact (hk.sect i hi).a.mono (by omega)
end Go.Proofs.YtjdbbnhnbdocbaaGreat
namespace Go.Tn.Dk
end Go.Tn.Dk
namespace Go.Proofs.YtjdbbnhnbdocbaaGreat
open Go.RowKit Go.Tn Go.Tn.Bt Go.Tn.Lp Go.Tn.Dk
end Go.Proofs.YtjdbbnhnbdocbaaGreat
namespace Go.Proofs.YtjdbbnhnbdocbaaGreat
open Go.RowKit Go.Tn Go.Tn.Bt Go.Tn.Lp Go.Tn.Dk
end Go.Proofs.YtjdbbnhnbdocbaaGreat
namespace Go.Tn.Dk
open Go.RowKit Go.Tn Go.Tn.Lp
end Go.Tn.Dk
namespace Go.Proofs.YtjdbbnhnbdocbaaGreat
open Go.RowKit Go.Tn Go.Tn.Bt Go.Tn.Lp Go.Tn.Dk
end Go.Proofs.YtjdbbnhnbdocbaaGreat
namespace Go.Proofs.YtjdbbnhnbdocbaaGreat
open Go.RowKit Go.Tn Go.Tn.Bt Go.Tn.Lp Go.Tn.Dk
def homesB (l:Lg) (d:Dsk):List (List Nat):=(List.range (l.homes d)).map (l.home d)
theorem homesB_len (l:Lg) (d:Dsk):(homesB l d).length=l.homes d:=by unfold homesB;rw [List.length_map,List.length_range]
def overB (hs:List (List Nat)) (ps:List Pt):List (List Nat):=ps.foldl (fun hs p=>if 0≤p.1∧p.1<(hs.length:Int) then hs.set p.1.toNat p.2 else hs) hs
theorem overB_len: ∀(ps:List Pt) (hs:List (List Nat)),(overB hs ps).length=hs.length
 | [],_=>rfl
 | p::ps,hs=>by
  show (overB (if 0≤p.1∧p.1<(hs.length:Int) then hs.set p.1.toNat p.2 else hs) ps).length=_
  rw [overB_len ps]
  split
  ·rw [List.length_set]
  ·rfl
theorem home_getD (l:Lg) (d:Dsk) (k:Nat):l.home d k=(l.H k).getD (d.get (2+l.n+k)):=by
 unfold Lg.home
 cases l.H k<;>rfl
theorem set_range (N:Nat) (f:Nat→List Nat) (i:Nat) (b:List Nat):((List.range N).map f).set i b=(List.range N).map fun k=>if k=i then b else f k:=by
 apply List.ext_getElem?
 intro j
 rw [List.getElem?_set,List.length_map,List.length_range,List.getElem?_map,List.getElem?_map]
 by_cases hj:j<N
 ·rw [List.getElem?_range hj]
  by_cases h:i=j
  ·subst h
   simp [hj]
  ·rw [if_neg h]
   simp [show ¬ j=i from fun e=>h e.symm]
 ·rw [List.getElem?_eq_none (l:=List.range N) (by rw [List.length_range];omega)]
  by_cases h:i=j
  ·subst h
   simp [hj]
  ·rw [if_neg h]
   rfl
theorem over_take (N:Nat) (g:Nat→List Nat): ∀(ps:List Pt) (H:Nat→Option (List Nat)),(∀p∈ps,0≤p.1∧p.1<N)→overB ((List.range N).map fun k=>(H k).getD (g k)) ps=(List.range N).map fun k=>(takeH H ps k).getD (g k)
 | [],H,_=>rfl
 | p::ps,H,h=>by
  have hp:=h p List.mem_cons_self
  have ih:=over_take N g ps (fun k=>if (k:Int)=p.1 then some p.2 else H k) fun q hq=>h q (List.mem_cons_of_mem _ hq)
  show overB (if 0≤p.1∧p.1<((((List.range N).map fun k=>(H k).getD (g k)).length:Nat):Int) then ((List.range N).map fun k=>(H k).getD (g k)).set p.1.toNat p.2 else (List.range N).map fun k=>(H k).getD (g k)) ps=(List.range N).map fun k=>(takeH (fun k:Nat=>if (k:Int)=p.1 then some p.2 else H k) ps k).getD (g k)
  rw [if_pos (by simp;omega),set_range, ←ih]
  congr 1
  refine List.map_congr_left fun k _=> ?_
  by_cases hk:(k:Int)=p.1
  ·rw [if_pos (by omega),if_pos hk]
   rfl
  ·rw [if_neg (by omega),if_neg hk]
theorem homesB_write {l l':Lg} {d d':Dsk} {ps:List Pt} {pcs:List Pc} (hn2:2≤l.n) (hn:l'.n=l.n) (hH:l'.H=takeH l.H ps) (hL:d'.L=d.L) (hQ:d'.Q=d.Q++ringQ l.n pcs) (ht:transB ps (l.homes d)=true):homesB l' d'=overB (homesB l d) ps:=by
 have hh:l'.homes d'=l.homes d:=by unfold Lg.homes;rw [hn,hL]
 unfold homesB
 rw [hh]
 have e1:l.home d=fun k=>(l.H k).getD (d.get (2+l.n+k)):=funext (home_getD l d)
 have e2:l'.home d'=fun k=>(takeH l.H ps k).getD (d.get (2+l.n+k)):=funext fun k=>homes_write hn2 hn hH hL hQ k
 rw [e1,e2,over_take]
 intro p hp
 have:=((transB_iff ps _).1 ht).2.2.1 p hp
 exact ⟨this.1,this.2.1⟩
end Go.Proofs.YtjdbbnhnbdocbaaGreat
namespace Go.Tn.Dk
theorem home_sec {l:Lg} {d:Dsk} (h:l.ok d) (hd:d.ok) {i:Nat} (hi:i<l.homes d):secB (l.home d i):=by
 unfold Lg.home
 cases hq:l.H i with
 | some b=>exact (h.H i b hq).2
 | none=>
  refine hd.get ?_
  unfold Lg.homes at hi
  omega
end Go.Tn.Dk
namespace Go.Proofs.YtjdbbnhnbdocbaaGreat
open Go.RowKit Go.Tn Go.Tn.Bt Go.Tn.Lp Go.Tn.Dk Go.Tn.Ino
structure Fs (w:World) (F FD:Nat→Prop) (s g p:Nat) (l:Lg) (d:Dsk):Prop where
 blk:w.heap[s]?=some (.cells #[.pointer (some ⟨g,0,none⟩)] 84 (0,0))
 log:LAt w F g p l
 disk:DAt w FD p d
 ap: ∀b,F b→¬ FD b
 ns:¬ F s
 nd:¬ FD s
section
variable {w w':World} {F FD F' FD':Nat→Prop} {s g p:Nat} {l l':Lg} {d d':Dsk}
theorem Fs.below (h:Fs w F FD s g p l d) (hb:Below w.heap.size w w'):Fs w' F FD s g p l d:=
 ⟨(hb.block s (lt_of_block h.blk)).trans h.blk,h.log.below hb,h.disk.below hb,h.ap,h.ns,h.nd⟩
theorem Fs.mod {S:Nat→Prop} (h:Fs w F FD s g p l d) (hm:Mod S w w') (h1: ∀b,F b→¬ S b) (h2: ∀b,FD b→¬ S b) (h3:¬ S s):Fs w' F FD s g p l d:=
 ⟨hm.heap h.blk h3,h.log.mod hm h1,h.disk.mod hm h2,h.ap,h.ns,h.nd⟩
theorem Fs.c (h:Fs w F FD s g p l d):w.cell? ⟨s,0,none⟩=some (.pointer (some ⟨g,0,none⟩)):=cell_of h.blk rfl
theorem Fs.turn (h:Fs w F FD s g p l d) (hL:LAt w' F' g p l') (hD:DAt w' FD' p d') (hm:Mod (fun b=>F b∨FD b) w w') (h1: ∀b,F' b→F b∨w.heap.size≤b) (h2: ∀b,FD' b→FD b∨w.heap.size≤b) (h3: ∀b,F' b→¬ FD' b):Fs w' F' FD' s g p l' d':=by
 have hs:=lt_of_block h.blk
 refine ⟨hm.heap h.blk (fun e=>e.elim h.ns h.nd),hL,hD,h3,fun e=> ?_,fun e=> ?_⟩
 ·rcases h1 s e with e|e
  ·exact h.ns e
  ·omega
 ·rcases h2 s e with e|e
  ·exact h.nd e
  ·omega
theorem fsok_any (h:Fs w F FD s g p l d):Calls Tryz.prog 71 #[.pointer (some ⟨s,0,none⟩)] w fun e w'=>e= .returned (.bool true)∧w'=w:=by
 have c:=h.c
 clear h
 go_enter Tryz.func71,Tryz.ntmps71
 go_wp2
 go_ret
 exact ⟨rfl,rfl⟩
theorem decI_parts (B:List Nat): ∃(x:Ino) (c:Nat),decI (inoOf B)= .tuple #[.agg (inoC x), .int .i64 (c:Nat)]∧x.bl.length=8:=by
 cases h:inoOf B with
 | none=>exact ⟨_,4,rfl,rfl⟩
 | some x=>
  refine ⟨x,0,rfl,?_⟩
  unfold inoOf at h
  split at h
  ·cases h
   exact (inoAt_fits B).len
  ·cases h
set_option maxRecDepth 20000 in
set_option maxHeartbeats 2000000 in
theorem finode_any (h:Fs w F FD s g p l d) (hok:l.ok d) (i:Nat) (hi:1+i<l.homes d):Calls Tryz.prog 49 #[.pointer (some ⟨s,0,none⟩), .int .i64 i] w
  fun e w'=>e= .returned (decI (inoOf (l.home d (1+i))))∧Below w.heap.size w w':=by
 have hho:l.homes d≤4096:=by have:=h.disk.ok.hi;unfold Lg.homes;omega
 have hsec:=home_sec hok h.disk.ok hi
 have hbz:(w.alloc (.cells (inoC (Ino.free 0)) 52)).heap[w.heap.size]?=some (.cells (inoC (Ino.free 0)) 52 (0,0)):=heap_alloc_at
 have hb1:Below w.heap.size w (w.alloc (.cells (inoC (Ino.free 0)) 52)):=(Below.refl _ _).alloc (Nat.le_refl _) _
 have hz1:(w.alloc (.cells (inoC (Ino.free 0)) 52)).heap.size=w.heap.size+1:=by simp
 generalize hw1:w.alloc (.cells (inoC (Ino.free 0)) 52)=w1 at hbz hb1 hz1
 have h1:=h.below hb1
 have hrd:=gread_any h1.log h1.disk hok (1+i) hi
 rw [show ((1+i:Nat):Int)=1+(i:Int) from Int.natCast_add 1 i] at hrd
 have c:=h1.c
 have hi63:(i:Int)<4096:=by omega
 rw [inoC_free] at hw1
 have HB1:=Lib.hid hb1
 have HBZ:=Lib.hid hbz
 have HZ1:=Lib.hid hz1
 have HS:=Lib.hid hsec
 obtain ⟨R,hR⟩: ∃R,decI (inoOf (l.home d (1+i)))=R:=⟨_,rfl⟩
 rw [hR]
 have HR:=Lib.hid hR
 clear h hok hho hsec hbz hb1 hz1 h1 hi hR
 go_enter Tryz.func49,Tryz.ntmps49
 go_upto_region 1 with fail
 simp only [hw1,Int.natCast_zero] at*
 clear hw1
 go_wp2_with fail
 refine hrd.mono ?_
 rintro e w2 ⟨v2,rfl,hO2,hb2⟩
 have hdc:=idec_any w2 v2 _ hO2.sl HS.out.1 HS.out.2
 obtain ⟨x,cd,hx,hx8⟩:=decI_parts (l.home d (1+i))
 rw [hx] at hdc
 have HX:Hid (R= .tuple #[.agg (inoC x), .int .i64 (cd:Nat)]):=Lib.hid (HR.out.symm.trans hx)
 obtain ⟨a2,n2,c2,rfl⟩: ∃a n c,v2= .slice a n c:=by
  obtain ⟨ao,cap,rfl, -⟩:=hO2.sl
  exact ⟨_,_,_,rfl⟩
 have HB2:=Lib.hid hb2
 clear hrd hO2 hb2 hx
 go_wp2_with fail
 refine hdc.mono ?_
 rintro e w3 ⟨rfl,hb3⟩
 have hb13:Below w1.heap.size w1 w3:=HB2.out.trans (hb3.mono HB2.out.size)
 have hbz3:=(hb13.block w.heap.size (by rw [HZ1.out];exact Nat.lt_succ_self _)).trans HBZ.out
 have hagx:=aggI hx8
 have honex:=inoC_one x
 have hszx:(inoC (Ino.free 0)).size=(inoC x).size:=by rw [inoC_size rfl,inoC_size hx8]
 have HB13:=Lib.hid hb13
 clear hdc hb3 hb13
 go_wp2_with (first
  | ((with_reducible refine wpList_storeB hagx ?_ ?_ hbz3 hszx honex ?_);rfl;rfl;(intro w9 hh9 hm9;have HH9:=Lib.hid hh9;have HM9:=Lib.hid hm9;clear hh9 hm9);go_frame)
  | fail)
 refine bodyPost_ret (results_cellT rfl _ rfl hagx (lies_of HH9.out)) rfl ?_
 rw [HX.out]
 exact ⟨rfl,HB1.out.trans ((HB13.out.mono HB1.out.size).trans (HM9.out.below (Nat.le_trans HB1.out.size HB13.out.size) fun x hx e=>by omega))⟩
end
def mapT (b:List Nat):Nat→Bool:=Al.homesOf fun i=>b.getD i 0
def takenB (b:List Nat) (n:Nat):Prop:= ∀j,j<1024→n≤j→mapT b j=false
theorem raw_of_sl {w:World} {v:Value} {b:List Nat} (h:LSl en8 1 w v b) (hs:secB b): ∃ao cap,v= .slice ao 128 cap∧Al.RawIn w ao 128 fun i=>b.getD i 0:=by
 obtain ⟨ao,cap,rfl,h1,h2,h3⟩:=h
 rw [hs.1] at h3 ⊢
 refine ⟨ao,cap,rfl,fun _=> ?_⟩
 obtain ⟨r,off,rfl,hr,hc⟩:=h3 (by decide)
 refine ⟨r,off,rfl,hr,fun i hi=> ?_⟩
 have hx:b[i]?=some (b[i]'(by rw [hs.1];exact hi)):=List.getElem?_eq_getElem _
 have:=hc i _ hx 0 (by simp)
 rw [Nat.mul_one,Nat.add_zero] at this
 have hd:b.getD i 0=b[i]'(by rw [hs.1];exact hi):=by rw [List.getD_eq_getElem?_getD,hx];rfl
 show w.cell? _=some (.int .u8 (b.getD i 0:Nat))∧b.getD i 0<256
 rw [hd]
 exact ⟨this,hs.2 _ (List.getElem_mem _)⟩
section
variable {w w':World} {F FD:Nat→Prop} {s g p:Nat} {l:Lg} {d:Dsk}
set_option maxRecDepth 20000 in
theorem ftaken_any (h:Fs w F FD s g p l d) (hok:l.ok d) (h2:2≤l.homes d) (h1024:l.homes d≤1024):Calls Tryz.prog 111 #[.pointer (some ⟨s,0,none⟩)] w
  fun e w'=>(takenB (l.home d 1) (l.homes d)→ ∃m,e= .returned (.tuple #[.pointer (some ⟨m,0,none⟩), .int .i64 0])∧Al.MapAt w' m (l.homes d) (mapT (l.home d 1))∧w.heap.size≤m)∧(¬ takenB (l.home d 1) (l.homes d)→e= .returned (.tuple #[.pointer none, .int .i64 4]))∧Below w.heap.size w w':=by
 have hsec:=home_sec hok h.disk.ok (show 1<l.homes d by omega)
 have hrd:=gread_any h.log h.disk hok 1 (by omega)
 have c:=h.c
 have HF:=Lib.hid h
 have HS:=Lib.hid hsec
 have HOK:=Lib.hid hok
 rw [show ((1:Nat):Int)=1 from rfl] at hrd
 clear h hsec hok
 go_enter Tryz.func111,Tryz.ntmps111
 go_wp2_with fail
 refine hrd.mono ?_
 rintro e w2 ⟨v2,rfl,hO2,hb2⟩
 obtain ⟨ao,cap,rfl,hraw⟩:=raw_of_sl hO2.sl HS.out
 have h2':=HF.out.below hb2
 have c2:=h2'.c
 have hho:=homes_any h2'.log h2'.disk HOK.out.nd
 have HB2:=Lib.hid hb2
 have HRW:=Lib.hid hraw
 clear hrd hO2 hb2 hraw h2' c
 go_wp2_with fail
 refine hho.mono ?_
 rintro e w3 ⟨rfl,hb3⟩
 have hBI:Al.BytesIn w3 ao (mapT (l.home d 1)):=Al.BytesIn.below (Al.RawIn.bytes HRW.out) hb3
 have hld:=Al.load_any w3 ao cap (mapT (l.home d 1)) hBI (fun i hi=>by simp [mapT,Al.homesOf];omega) (l.homes d) (by omega) h1024
 have HB3:=Lib.hid (HB2.out.trans (hb3.mono HB2.out.size))
 clear hho hb3 hBI
 go_wp2_with fail
 refine hld.mono ?_
 rintro e w4 ⟨hy,hn,hb4⟩
 have HB4:=Lib.hid (HB3.out.trans (hb4.mono HB3.out.size))
 by_cases ht:takenB (l.home d 1) (l.homes d)
 ·obtain ⟨m,rfl,hM,hm⟩:=hy ht
  have HT:=Lib.hid ht
  have HM:=Lib.hid hM
  have HMm:=Lib.hid (Nat.le_trans HB3.out.size hm)
  clear hy hn ht hM hm hb4 hld
  go_wp2
  go_ret2
  exact ⟨fun _=>⟨m,rfl,HM.out,HMm.out⟩,fun hn=>absurd HT.out hn,HB4.out⟩
 ·obtain rfl:=hn ht
  have HT:=Lib.hid ht
  clear hy hn ht hb4 hld
  go_wp2
  go_ret2
  exact ⟨fun hy=>absurd hy HT.out,fun _=>rfl,HB4.out⟩
end
end Go.Proofs.YtjdbbnhnbdocbaaGreat
