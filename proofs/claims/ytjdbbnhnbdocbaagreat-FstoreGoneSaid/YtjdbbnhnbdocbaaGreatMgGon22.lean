import Derived.Test.YtjdbbnhnbdocbaaGreatMgGon21
import Derived.Test.YtjdbbnhnbdocbaaGreatMgGon5
import Derived.ArgAppend
import Derived.Test.YtjdbbnhnbdocbaaGreatMgGon7
import Derived.Test.YtjdbbnhnbdocbaaGreatMgGon8
import Derived.Test.YtjdbbnhnbdocbaaGreatMgGon6
namespace Go.Tn.Lp
open Go.Tn Go.Tn.Bt
def tornB (k:Nat) (a b:List Nat):List Nat:=a.take k++b.drop k
def epN (b:List Nat):Nat:=numOf b/1099511627776
theorem epN8 {a b c d e f g h:Nat} (hd:d<256) (he:e<256) (hf:f<256) (hg:g<256) (hh:h<256):epN [a,b,c,d,e,f,g,h]=a*65536+b*256+c:=by
 unfold epN numOf
 simp only [List.foldl_cons,List.foldl_nil]
 omega
theorem epN_hi {l:List Nat} (h8:l.length=8) (hb: ∀x∈l,x<256): ∃a b c r,l=a::b::c::r∧r.length=5∧a<256∧b<256∧c<256∧epN l=a*65536+b*256+c:=by
 obtain ⟨a,b,c,d,e,f,g,h,rfl⟩: ∃a b c d e f g h,l= [a,b,c,d,e,f,g,h]:=by
  match l,h8 with
  | [a,b,c,d,e,f,g,h],_=>exact ⟨a,b,c,d,e,f,g,h,rfl⟩
 have h:=hb
 exact ⟨a,b,c,_,rfl,rfl,hb _ (by simp),hb _ (by simp),hb _ (by simp),epN8 (hb _ (by simp)) (hb _ (by simp)) (hb _ (by simp)) (hb _ (by simp)) (hb _ (by simp))⟩
theorem epN_stamp {p:Pc} (h:p.ok):epN (bytesN (stampN p) 8)=p.ep:=by
 have h1:=h.1
 have h2:=h.2.1
 unfold epN
 rw [numOf_bytesN]
 have hs:stampN p %256 ^ 8=stampN p:=Nat.mod_eq_of_lt (by unfold stampN;omega)
 rw [hs]
 unfold stampN
 omega
theorem stamp_inj {p q:Pc} (hp:p.ok) (hq:q.ok) (h:bytesN (stampN p) 8=bytesN (stampN q) 8):p.ep=q.ep∧p.ct=q.ct:=by
 have h1:=congrArg numOf h
 rw [numOf_bytesN,numOf_bytesN] at h1
 have hs:stampN p %256 ^ 8=stampN p:=Nat.mod_eq_of_lt (by have:=hp.1;have:=hp.2.1;unfold stampN;omega)
 have ht:stampN q %256 ^ 8=stampN q:=Nat.mod_eq_of_lt (by have:=hq.1;have:=hq.2.1;unfold stampN;omega)
 rw [hs,ht] at h1
 have a1:=hp.1
 have a2:=hp.2.1
 have a3:=hq.1
 have a4:=hq.2.1
 unfold stampN at h1
 omega
theorem unseal_ends {b:List Nat} {p:Pc} (hb: ∀x∈b,x<256) (h:unsealB b=some p):p.ok∧b.length=128∧b.take 8=bytesN (stampN p) 8∧b.drop 120=bytesN (stampN p) 8:=by
 have hok:=(unsealB_ok hb h).1
 have hs:=seal_unseal h
 refine ⟨hok,by rw [←hs,sealB_len],by rw [←hs];exact seal_front p hok.2.2,by rw [←hs];exact seal_back p⟩
structure Sect (E:Nat) (X:List Nat):Prop where
 len:X.length=128
 byt: ∀x∈X,x<256
 fe:epN (X.take 8)≤E
 be:epN (X.drop 120)≤E
 hi:epN (X.drop 120)/256≤epN (X.take 8)/256
 old:(epN (X.take 8)<E∧epN (X.drop 120)<E)∨ ∃p,unsealB X=some p∧p.ep=E
theorem take_torn {k n:Nat} {a b:List Nat} (ha:a.length=128) (hb:b.length=128) (hn:n≤128):(tornB k a b).take n=(a.take n).take k++(b.take n).drop k:=by
 unfold tornB
 rw [List.take_append,List.take_take,List.take_take,List.length_take,List.take_drop,Nat.min_comm]
 by_cases hk:k≤128
 ·rw [show n-min k a.length=n-k by omega]
  by_cases hkn:k≤n
  ·rw [show k+(n-k)=n by omega]
  ·have e1:(b.take n).drop k= []:=List.drop_eq_nil_of_le (by rw [List.length_take];omega)
   have e2:(b.take (k+(n-k))).drop k= []:=List.drop_eq_nil_of_le (by rw [List.length_take];omega)
   rw [e1,e2]
 ·have e1:(b.take n).drop k= []:=List.drop_eq_nil_of_le (by rw [List.length_take];omega)
  have e2:(b.take (k+(n-min k a.length))).drop k= []:=List.drop_eq_nil_of_le (by rw [List.length_take];omega)
  rw [e1,e2]
theorem drop_torn {k:Nat} {a b:List Nat} (ha:a.length=128):(tornB k a b).drop 120=(a.drop 120).take (k-120)++(b.drop 120).drop (k-120):=by
 unfold tornB
 rw [List.drop_append,List.length_take,List.drop_take,List.drop_drop,List.drop_drop]
 congr 2
 omega
theorem ar1 {E a b c a' b' c':Nat} (h1:E=a*65536+b*256+c) (hE:E<65536) (h2:a'*65536+b'*256+c'<E):a=a':=by omega
theorem ar2 {E a b c a' b' c' a'' c'':Nat} (h1:E=a*65536+b*256+c) (hE:E<65536) (hc:c<256) (hc':c'<256) (hc'':c''<256) (h2:a'*65536+b'*256+c'<E) (h3:a''*65536+b*256+c''<E)
  (hh:(a''*65536+b*256+c'')/256≤(a'*65536+b'*256+c')/256):a=a'∧b=b':=by omega
theorem torn_or {E k:Nat} {X:List Nat} {q:Pc} (hX:Sect E X) (hE:E<65536) (hq:q.ok) (hqd: ∀x∈q.da,x<256) (hqE:q.ep=E) (hct: ∀p,unsealB X=some p→p.ep=E→p.ct≠q.ct):
  unsealB (tornB k (sealB q) X)=none∨tornB k (sealB q) X=X∨tornB k (sealB q) X=sealB q:=by
 have hSl:=sealB_len q
 have hSb:=sealB_lt q hqd hq.2.2
 have hfS:=seal_front q hq.2.2
 have hbS:=seal_back q
 have heS:=epN_stamp hq
 cases hu:unsealB (tornB k (sealB q) X) with
 | none=>exact .inl rfl
 | some p'=>
  right
  have hYb: ∀x∈tornB k (sealB q) X,x<256:=fun x hx=>by
   rcases List.mem_append.1 hx with hx|hx
   ·exact hSb x (List.mem_of_mem_take hx)
   ·exact hX.byt x (List.mem_of_mem_drop hx)
  obtain ⟨hpok,hYl,hf,hb⟩:=unseal_ends hYb hu
  have hfb:(tornB k (sealB q) X).take 8=(tornB k (sealB q) X).drop 120:=hf.trans hb.symm
  rw [take_torn hSl hX.len (by decide),drop_torn hSl,hfS,hbS] at hfb
  obtain ⟨s,hs⟩: ∃s,bytesN (stampN q) 8=s:=⟨_,rfl⟩
  have hsl:s.length=8:=by rw [←hs,bytesN_len]
  have hsb: ∀x∈s,x<256:=by rw [←hs];exact bytesN_lt _ _
  rw [hs] at hfb hfS hbS heS
  have hfl:(X.take 8).length=8:=by rw [List.length_take,hX.len];rfl
  have hbl:(X.drop 120).length=8:=by rw [List.length_drop,hX.len]
  have hXf: ∀x∈X.take 8,x<256:=fun x hx=>hX.byt x (List.mem_of_mem_take hx)
  have hXb: ∀x∈X.drop 120,x<256:=fun x hx=>hX.byt x (List.mem_of_mem_drop hx)
  by_cases hk128:128≤k
  ·right
   unfold tornB
   rw [List.take_of_length_le (by omega),List.drop_eq_nil_of_le (by rw [hX.len];omega),List.append_nil]
  by_cases hk8:8≤k
  ·have z1:(X.take 8).drop k= []:=List.drop_eq_nil_of_le (by rw [hfl];omega)
   have z2:s.take k=s:=List.take_of_length_le (by rw [hsl];omega)
   rw [z1,z2,List.append_nil] at hfb
   by_cases hk120:k≤120
   ·exfalso
    rw [show k-120=0 by omega,List.take_zero,List.nil_append,List.drop_zero] at hfb
    rcases hX.old with ⟨_,h2⟩|⟨p,hp,hpe⟩
    ·rw [←hfb,heS] at h2
     omega
    ·obtain ⟨ok1,_,_,h4⟩:=unseal_ends hX.byt hp
     have:=(stamp_inj ok1 hq (by rw [←h4, ←hfb,hs])).2
     exact hct p hp hpe this
   ·right
    -- the rest of both is the same
    have h1:(X.drop 120).drop (k-120)=s.drop (k-120):=by
     have e:=congrArg (List.drop (k-120)) hfb
     rw [List.drop_left' (by rw [List.length_take,hsl];omega)] at e
     exact e.symm
    rw [←hbS,List.drop_drop,List.drop_drop,show 120+(k-120)=k by omega] at h1
    unfold tornB
    rw [h1,List.take_append_drop]
  ·left
   rw [show k-120=0 by omega,List.take_zero,List.nil_append,List.drop_zero] at hfb
   -- where the first k bytes are the same,so is the sector
   have key:s.take k=(X.take 8).take k→tornB k (sealB q) X=X:=fun h=>by
    unfold tornB
    rw [←hfS,List.take_take,List.take_take,Nat.min_eq_left (by omega)] at h
    rw [h,List.take_append_drop]
   rcases hX.old with ⟨h1,h2⟩|⟨p,hp,hpe⟩
   ·obtain ⟨a,b,c,r,hsd,hr,ha1,hb1,hc1,he1⟩:=epN_hi hsl hsb
    obtain ⟨a',b',c',r',hfd,hr',ha2,hb2,hc2,he2⟩:=epN_hi hfl hXf
    obtain ⟨a'',b'',c'',r'',hbd,hr'',ha3,hb3,hc3,he3⟩:=epN_hi hbl hXb
    have hhi:=hX.hi
    rw [hsd,hfd,hbd] at hfb
    rw [hsd,hfd] at key
    rw [he2,he3] at hhi
    rw [he2] at h1
    rw [he3] at h2
    have he1:a*65536+b*256+c=E:=by rw [←he1,heS,hqE]
    clear hu hYb hpok hYl hf hb hSl hSb hfS hbS hs hsl hsb hfl hbl hXf hXb hct hX hq hqd hfd hbd hsd heS
    rcases k with _|_|_|k
    ·exact key rfl
    ·refine key ?_
     rw [ar1 he1.symm hE h1]
     rfl
    ·simp only [List.take_succ_cons,List.take_zero,List.drop_succ_cons,List.drop_zero,List.cons_append,List.nil_append,List.cons.injEq] at hfb
     obtain ⟨f1,f2, -⟩:=hfb
     subst f2
     refine key ?_
     obtain ⟨g1,g2⟩:=ar2 he1.symm hE hc1 hc2 hc3 h1 h2 hhi
     rw [g1,g2]
     rfl
    ·exfalso
     simp only [List.take_succ_cons,List.cons_append,List.cons.injEq] at hfb
     obtain ⟨f1,f2,f3, -⟩:=hfb
     subst f1 f2 f3
     omega
   ·obtain ⟨_,_,h3,h4⟩:=unseal_ends hX.byt hp
    refine key ?_
    have e:X.drop 120=X.take 8:=h4.trans h3.symm
    rw [e] at hfb
    have:=congrArg (List.take k) hfb
    rwa [List.take_left' (by rw [List.length_take,hsl];omega)] at this
theorem epN3 {a b c:Nat} {r:List Nat} (hr:r.length=5) (hb: ∀x∈r,x<256):epN (a::b::c::r)=a*65536+b*256+c:=by
 match r,hr with
 | [d,e,f,g,h],_=>exact epN8 (hb _ (by simp)) (hb _ (by simp)) (hb _ (by simp)) (hb _ (by simp)) (hb _ (by simp))
theorem epN_mix {s x:List Nat} (hs:s.length=8) (hx:x.length=8) (hsb: ∀y∈s,y<256) (hxb: ∀y∈x,y<256) (h1:epN s<65536) (h2:epN x<65536) (j:Nat):
  epN (s.take j++x.drop j)=epN x∨epN (s.take j++x.drop j)=epN s/256*256+epN x %256∨epN (s.take j++x.drop j)=epN s:=by
 obtain ⟨a,b,c,r,rfl,hr,ha1,hb1,hc1,he1⟩:=epN_hi hs hsb
 obtain ⟨a',b',c',r',rfl,hr',ha2,hb2,hc2,he2⟩:=epN_hi hx hxb
 rw [he1] at h1 ⊢
 rw [he2] at h2 ⊢
 have hrb: ∀y∈r,y<256:=fun y hy=>hsb y (by simp [hy])
 have hrb': ∀y∈r',y<256:=fun y hy=>hxb y (by simp [hy])
 clear hsb hxb hs hx
 rcases j with _|_|_|j
 ·left
  exact epN3 hr' hrb'
 ·left
  have:=epN3 (a:=a) (b:=b') (c:=c') hr' hrb'
  refine Eq.trans ?_ (this.trans ?_)
  ·rfl
  ·omega
 ·right;left
  have:=epN3 (a:=a) (b:=b) (c:=c') hr' hrb'
  refine Eq.trans ?_ (this.trans ?_)
  ·rfl
  ·omega
 ·right;right
  have hl:(r.take j++r'.drop j).length=5:=by
   rw [List.length_append,List.length_take,List.length_drop]
   omega
  have hb3: ∀y∈r.take j++r'.drop j,y<256:=fun y hy=>by
   rcases List.mem_append.1 hy with hy|hy
   ·exact hrb y (List.mem_of_mem_take hy)
   ·exact hrb' y (List.mem_of_mem_drop hy)
  exact epN3 (a:=a) (b:=b) (c:=c) hl hb3
theorem torn_len {k:Nat} {a b:List Nat} (ha:a.length=128) (hb:b.length=128):(tornB k a b).length=128:=by
 unfold tornB
 rw [List.length_append,List.length_take,List.length_drop]
 omega
theorem torn_lt {k:Nat} {a b:List Nat} (ha: ∀x∈a,x<256) (hb: ∀x∈b,x<256): ∀x∈tornB k a b,x<256:=fun x hx=>by
 rcases List.mem_append.1 hx with hx|hx
 ·exact ha x (List.mem_of_mem_take hx)
 ·exact hb x (List.mem_of_mem_drop hx)
structure SectA (M:Nat) (X:List Nat):Prop where
 len:X.length=128
 byt: ∀x∈X,x<256
 fe:epN (X.take 8)≤M
 be:epN (X.drop 120)≤M
 hi:epN (X.drop 120)/256≤epN (X.take 8)/256
theorem Sect.a {E:Nat} {X:List Nat} (h:Sect E X):SectA E X:=⟨h.len,h.byt,h.fe,h.be,h.hi⟩
theorem SectA.mono {M N:Nat} {X:List Nat} (h:SectA M X) (hM:M≤N):SectA N X:=⟨h.len,h.byt,Nat.le_trans h.fe hM,Nat.le_trans h.be hM,h.hi⟩
theorem SectA.next {M E:Nat} {X:List Nat} (h:SectA M X) (hM:M<E):Sect E X:=⟨h.len,h.byt,by have:=h.fe;omega,by have:=h.be;omega,h.hi, .inl ⟨by have:=h.fe;omega,by have:=h.be;omega⟩⟩
theorem torn_ends {E k:Nat} {X:List Nat} {q:Pc} (hX:SectA E X) (hE:E<65536) (hq:q.ok) (hqd: ∀x∈q.da,x<256) (hqE:q.ep=E):SectA (E/256*256+255) (tornB k (sealB q) X):=by
 have hSl:=sealB_len q
 have hSb:=sealB_lt q hqd hq.2.2
 have hfS:=seal_front q hq.2.2
 have hbS:=seal_back q
 have heS:=epN_stamp hq
 rw [hqE] at heS
 have hsl:(bytesN (stampN q) 8).length=8:=bytesN_len _ _
 have hsb: ∀x∈bytesN (stampN q) 8,x<256:=bytesN_lt _ _
 have hfl:(X.take 8).length=8:=by rw [List.length_take,hX.len];rfl
 have hbl:(X.drop 120).length=8:=by rw [List.length_drop,hX.len]
 have hXf: ∀x∈X.take 8,x<256:=fun x hx=>hX.byt x (List.mem_of_mem_take hx)
 have hXb: ∀x∈X.drop 120,x<256:=fun x hx=>hX.byt x (List.mem_of_mem_drop hx)
 have h1:=hX.fe
 have h2:=hX.be
 have h3:=hX.hi
 have ef:(tornB k (sealB q) X).take 8=(bytesN (stampN q) 8).take k++(X.take 8).drop k:=by rw [take_torn hSl hX.len (by decide),hfS]
 have eb:(tornB k (sealB q) X).drop 120=(bytesN (stampN q) 8).take (k-120)++(X.drop 120).drop (k-120):=by rw [drop_torn hSl,hbS]
 have mf:=epN_mix hsl hfl hsb hXf (by omega) (by omega) k
 have mb:=epN_mix hsl hbl hsb hXb (by omega) (by omega) (k-120)
 rw [←ef] at mf
 rw [←eb] at mb
 rw [heS] at mf mb
 have hk0:k≤120→epN ((tornB k (sealB q) X).drop 120)=epN (X.drop 120):=fun h=>by
  rw [eb,show k-120=0 by omega]
  rfl
 have hk8:120<k→epN ((tornB k (sealB q) X).take 8)=E:=fun h=>by
  rw [ef,List.take_of_length_le (by rw [hsl];omega)]
  have z:(X.take 8).drop k= []:=List.drop_eq_nil_of_le (by rw [hfl];omega)
  rw [z,List.append_nil,heS]
 have key:epN ((tornB k (sealB q) X).take 8)≤E/256*256+255∧epN ((tornB k (sealB q) X).drop 120)≤E/256*256+255∧epN ((tornB k (sealB q) X).drop 120)/256≤epN ((tornB k (sealB q) X).take 8)/256:=by
  clear ef eb hfS hbS heS hsl hsb hfl hbl hXf hXb hX hq hqd hqE
  generalize epN ((tornB k (sealB q) X).take 8)=f at*
  generalize epN ((tornB k (sealB q) X).drop 120)=b at*
  generalize epN (X.take 8)=fx at*
  generalize epN (X.drop 120)=bx at*
  refine ⟨by omega,by omega,?_⟩
  by_cases h120:k≤120
  ·have:=hk0 h120
   omega
  ·have:=hk8 (by omega)
   omega
 exact ⟨torn_len hSl hX.len,torn_lt hSb hX.byt,key.1,key.2.1,key.2.2⟩
theorem seal_sect {q:Pc} (hq:q.ok) (hqd: ∀x∈q.da,x<256):Sect q.ep (sealB q):=by
 have hfS:=seal_front q hq.2.2
 have hbS:=seal_back q
 have heS:=epN_stamp hq
 refine ⟨sealB_len q,sealB_lt q hqd hq.2.2,?_,?_,?_, .inr ⟨q,unseal_seal hq,rfl⟩⟩
 ·rw [hfS,heS];exact Nat.le_refl _
 ·rw [hbS,heS];exact Nat.le_refl _
 ·rw [hfS,hbS];exact Nat.le_refl _
end Go.Tn.Lp
namespace Go.Tn
open Go.RowKit
section
variable {α:Type} {en:α→List Value} {k:Nat} {e t:TypeId} {P:Program}
theorem exec_append1F (E:ElT P t e k en) {ty:TypeId} {w:World} {ao:Option Addr} {xs:List α} (h:LSl en k w (.slice ao xs.length xs.length) xs) (x:α) (hsz:xs.length≤100000):
  ∃v' w',(∀(ρ:Operand→Value) (dst:Option Tmp) (pos:String) (after:Array Edge) (g:Option (Nat×Bool)) (s y:Operand),ρ s= .slice ao xs.length xs.length→ρ y= .slice (some ⟨w.heap.size,0,none⟩) 1 1→
   (execOp ρ ⟨dst, .call {callee:= .builtin .append,args:= #[s,y],argTypes:= #[t,t]},ty,pos,after,g⟩).run P (w.alloc (.cells (en x).toArray e))= .ok (.value v') w')∧
   LOut en k e w.heap.size w' v' (xs++ [x])∧Below w.heap.size w w':=by
 cases ao with
 | none=>
  have h0:xs= []:=by
   obtain ⟨ao,cap,hv, -, -,h3⟩:=h
   by_cases hx:0<xs.length
   ·obtain ⟨b,off,he, -⟩:=h3 hx
    injection hv with h1
    rw [←h1] at he
    cases he
   ·exact List.eq_nil_of_length_eq_zero (by omega)
  subst h0
  obtain ⟨v',w',h1,h2,h3, -⟩:=exec_append1Y E (ty:=ty) (LOut.nil (en:=en) (k:=k) (e:=e) (w:=w) (Nat.le_refl w.heap.size)) x (by simp)
  exact ⟨v',w',h1,h2,h3.below (Nat.le_refl _) fun r hr e=>by cases e⟩
 | some a=>
  obtain ⟨i,hi,hI⟩: ∃i,P.info? e=some i∧(i.zero.map (fun z=>z.cells.size),i.size,decide (i.bytes≤1000))=(some k,k,true):=by
   have:=E.info
   cases hq:P.info? e with
   | none=>simp [hq] at this
   | some i=>exact ⟨i,rfl,by simpa [hq] using this⟩
  obtain ⟨hz0,hI⟩:=Prod.mk.inj hI
  obtain ⟨hsize,hby⟩:=Prod.mk.inj hI
  obtain ⟨z,hz,hzs⟩: ∃z,i.zero=some z∧z.cells.size=k:=by
   cases hq:i.zero with
   | none=>simp [hq] at hz0
   | some z=>exact ⟨z,rfl,by simpa [hq] using hz0⟩
  have hby':i.bytes≤1000:=of_decide_eq_true hby
  have hbw:Below w.heap.size w (w.alloc (.cells (en x).toArray e)):=(Below.refl _ _).alloc (Nat.le_refl _) _
  have hl1:=h.below hbw
  have hlit:=LSl.lit (w:=w) (x:=x) E.len e
  have hcells: ∀{w':World} {a:Addr} {n c:Nat} {ys:List α},LSl en k w' (.slice (some a) n c) ys→ ∀j u,(ys.flatMap en)[j]?=some u→w'.cell? (a.add j)=some u:=fun {w' a n c ys} hs j u hj=>by
   obtain ⟨ao,cap,hv, -, -,h3⟩:=hs
   have hjl:=(List.getElem?_eq_some_iff.1 hj).1
   rw [len_flatMap E.len] at hjl
   have hk:=E.pos
   have hy:0<ys.length:=by
    apply Classical.byContradiction
    intro hn
    have:ys.length=0:=by omega
    rw [this] at hjl
    omega
   obtain ⟨b,off,rfl,hlt,hc⟩:=h3 hy
   injection hv with h1
   injection h1 with h1
   subst h1
   have hdm:j/k*k+j %k=j:=by rw [Nat.mul_comm];exact Nat.div_add_mod j k
   have hjk:j/k<ys.length:=Nat.div_lt_of_lt_mul (by rw [Nat.mul_comm];exact hjl)
   have hx:ys[j/k]?=some ys[j/k]:=List.getElem?_eq_getElem hjk
   have hm:j %k<k:=Nat.mod_lt _ hk
   have h1:=get_flatMap E.len ys (j/k) (j %k) _ hx hm
   rw [hdm,hj] at h1
   have h2:=hc _ _ hx (j %k) (by simpa [E.len] using hm)
   rw [addr_add]
   rw [show off+j=off+j/k*k+j %k by omega,h2]
   have h3:(en ys[j/k])[j %k]?=some ((en ys[j/k])[j %k]'(by rw [E.len];exact hm)):=List.getElem?_eq_getElem _
   rw [h3] at h1
   rw [h1]
   simp
  obtain ⟨v',w',hr,hown,hg⟩:=run_append_arg_grows (P:=P) (w:=w.alloc (.cells (en x).toArray e)) t ty e i z k i.bytes E.sl hi hz hsize rfl hzs E.pos a xs.length xs.length (xs.flatMap en) (len_flatMap E.len xs) (hcells hl1) ⟨w.heap.size,0,none⟩ 1 1 ([x].flatMap en) (len_flatMap E.len [x]) (hcells hlit) (by omega) (by unfold maxLen;omega) (by
   have:(xs.length+1)*i.bytes≤100001*1000:=Nat.mul_le_mul (by omega) hby'
   omega)
  refine ⟨v',w',fun ρ dst pos after g s y hs hy=> ?_,⟨?_,fun r hr'=> ?_,Nat.le_trans hbw.size hg.size⟩,hbw.trans ((Below.refl _ _).grown hg hbw.size fun r hr=>by cases hr)⟩
  ·simp only [execOp,resolve,invoke,builtin,Sem.run_bind,Sem.run_pure,Result.andThen_ok,List.map_toArray,List.map_cons,List.map_nil,hs,hy,hr]
  ·refine ⟨by rw [len_flatMap E.len],?_⟩
   rcases hown.2 with ⟨h1,h2⟩|⟨g,cap,cur,h1,h2,h3⟩
   ·omega
   ·refine .inr ⟨g,cap,cur,by rw [List.length_append];exact h1,Nat.zero_le _,?_⟩
    rw [List.length_append,List.flatMap_append]
    exact h3
  ·have:=hown.lt r hr'
   exact Nat.le_trans hbw.size this.1
theorem exec_appendL (E:ElT P t e k en) {ty:TypeId} {B:Nat} {w:World} {v u:Value} {xs ys:List α} (h:LOut en k e B w v xs) (hu:LSl en k w u ys) (hsz:xs.length+ys.length≤100000):
  ∃v' w',(∀(ρ:Operand→Value) (dst:Option Tmp) (pos:String) (after:Array Edge) (g:Option (Nat×Bool)) (s y:Operand),ρ s=v→ρ y=u→
   (execOp ρ ⟨dst, .call {callee:= .builtin .append,args:= #[s,y],argTypes:= #[t,t]},ty,pos,after,g⟩).run P w= .ok (.value v') w')∧LOut en k e B w' v' (xs++ys)∧Below B w w':=by
 obtain ⟨v',w',hr,ho,hg, -⟩:=run_appendMX E (ty:=ty) h hu (by omega)
 refine ⟨v',w',fun ρ dst pos after g s y hs hy=> ?_,ho,(Below.refl B w).grown hg h.le h.lo⟩
 simp only [execOp,resolve,invoke,builtin,Sem.run_bind,Sem.run_pure,Result.andThen_ok,List.map_toArray,List.map_cons,List.map_nil,hs,hy,hr]
end
end Go.Tn
namespace Go.Proofs.YtjdbbnhnbdocbaaGreat
open Go.RowKit Go.Tn Go.Tn.Bt
theorem exec_convS {w:World} {b n cap:Nat} {bs:List Nat} (h:LSl en8 1 w (.slice (some ⟨b,0,none⟩) n cap) bs) {ρ:Operand→Value} {dst:Option Tmp} {ty:TypeId} {pos:String} {after:Array Edge} {g:Option (Nat×Bool)} {x:Operand} (hx:ρ x= .slice (some ⟨b,0,none⟩) n cap):
  (execOp ρ ⟨dst, .convert 44 9 x,ty,pos,after,g⟩).run Tryz.prog w= .ok (.value (.string (strOfNums (bs.map fun (n:Nat)=>(n:Int))))) w:=by
 obtain ⟨ao,c,hv,h1,h2,h3⟩:=h
 cases hv
 have hr:=run_convert_bytes_arg (P:=Tryz.prog) w 44 5 Tryz.underlying44 Tryz.underlying5 b 0 bs.length cap (bs.map fun (n:Nat)=>(n:Int)) (by simp) (fun i hi=>by
  obtain ⟨b',o',he,_,hc⟩:=h3 (by omega)
  cases he
  have hi':bs[i]?=some bs[i]:=List.getElem?_eq_getElem hi
  have:=hc i _ hi' 0 (by simp)
  simp only [Nat.zero_add,Nat.mul_one,Nat.add_zero] at this ⊢
  rw [this]
  simp [List.getD,hi]) 9 Tryz.underlying9
 simp only [execOp,hx,Sem.run_bind,hr,Result.andThen_ok,Sem.run_pure]
theorem exec_sliceArr {P:Program} {t e:TypeId} {k n:Nat} {ρ:Operand→Value} {dst:Option Tmp} {ty:TypeId} {pos:String} {after:Array Edge} {g:Option (Nat×Bool)} {x y:Operand} {w:World} {b i:Nat} (hu:P.underlying t=some (.array n e)) (hs:(P.info? e).map (·.size)=some k) (hi:i≤n) (hx:ρ x= .pointer (some ⟨b,0,none⟩)) (hy:ρ y= .int .i64 i):
  (execOp ρ ⟨dst, .slice t x none (some y) none,ty,pos,after,g⟩).run P w= .ok (.value (.slice (some ⟨b,0,none⟩) i n)) w:=by
 have h0:(0:Int)≤(i:Int)∧(i:Int)≤(n:Int):=by omega
 have ha:(if n=0 then (⟨b,0,none⟩:Addr) else (⟨b,0,none⟩:Addr).add 0)=⟨b,0,none⟩:=by
  split
  ·rfl
  ·rfl
 simp only [execOp,hx,hy,Option.map_some,Option.map_none,Instr.sliceAt,Instr.sureAddr,Instr.sliceBounds,Instr.sliceBound,asIntOf,run_underlying hu,Sem.run_bind,Sem.run_pure,Result.andThen_ok,h0,and_self,if_true,sizeOf_of hs,Int.toNat_natCast,Nat.zero_mul,Nat.sub_zero,ha]
theorem exec_sliceFull {P:Program} {t e:TypeId} {k:Nat} {ρ:Operand→Value} {dst:Option Tmp} {ty:TypeId} {pos:String} {after:Array Edge} {g:Option (Nat×Bool)} {x y z:Operand} {w:World} {ao:Option Addr} {len cap i:Nat} (hu:P.underlying t=some (.slice e)) (hs:(P.info? e).map (·.size)=some k) (hi:i≤cap) (hx:ρ x= .slice ao len cap) (hy:ρ y= .int .i64 i) (hz:ρ z= .int .i64 i):
  (execOp ρ ⟨dst, .slice t x none (some y) (some z),ty,pos,after,g⟩).run P w= .ok (.value (.slice ao i i)) w:=by
 have h0:(0:Int)≤(i:Int)∧(i:Int)≤(cap:Int):=by omega
 have h1:(0:Int)≤(i:Int)∧(i:Int)≤(i:Int):=by omega
 have ha:(if i=0 then ao else ao.map (·.add 0))=ao:=by
  split
  ·rfl
  ·cases ao with
   | none=>rfl
   | some a=>simp [add_zero]
 simp only [execOp,hx,hy,hz,Option.map_some,Option.map_none,Instr.sliceAt,Instr.slice,Instr.sliceBounds,Instr.sliceBound,asIntOf,run_underlying hu,Sem.run_bind,Sem.run_pure,Result.andThen_ok,h0,h1,and_self,if_true,sizeOf_of hs,Int.toNat_natCast,Nat.zero_mul,Nat.sub_zero,ha]
end Go.Proofs.YtjdbbnhnbdocbaaGreat
namespace Go.Tn.Dr
open Go.RowKit Go.Tn.Bt Go.Tn.Ino
structure Ent where
 name:ByteArray
 ino:Nat
 gen:Nat
 kind:Nat
 deriving DecidableEq
def bsz (s:ByteArray):List UInt8:=s.data.toList
theorem bsz_len (s:ByteArray):(bsz s).length=s.size:=Array.length_toList
theorem bsz_ext {s t:ByteArray} (h:bsz s=bsz t):s=t:=by
 cases s;cases t
 have:=Array.ext' h
 simp only at this
 rw [this]
structure Ent.fits (e:Ent):Prop where
 len:e.name.size≤16
 ino:e.ino<64
 gen:e.gen<2147483648
 kind:e.kind<4
def nameB (s:ByteArray):List Nat:=(List.range 16).map fun i=>(((bsz s)[i]?).getD 0).toNat
def Ent.bits (e:Ent):List Bool:=bitsN e.name.size 5++bitsN e.ino 6++bitsN e.gen 31++bitsN e.kind 2++(nameB e.name).flatMap (bitsN · 8)
theorem bflat_len (k:Nat): ∀l:List Nat,(l.flatMap (bitsN · k)).length=k*l.length
 | []=>rfl
 | x::l=>by rw [List.flatMap_cons,List.length_append,bitsN_len,bflat_len k l,List.length_cons,Nat.mul_succ,Nat.add_comm]
theorem nameB_len (s:ByteArray):(nameB s).length=16:=by simp [nameB]
theorem nameB_lt (s:ByteArray): ∀x∈nameB s,x<256:=fun x hx=>by
 obtain ⟨i, -,rfl⟩:=List.mem_map.1 hx
 exact UInt8.toNat_lt _
theorem Ent.bits_len (e:Ent):e.bits.length=172:=by
 unfold Ent.bits
 simp only [List.length_append,bitsN_len,bflat_len,nameB_len]
theorem ents_len: ∀l:List Ent,(l.flatMap Ent.bits).length=172*l.length
 | []=>rfl
 | x::l=>by rw [List.flatMap_cons,List.length_append,Ent.bits_len,ents_len l,List.length_cons];omega
def dirSec (l:List Ent):List Nat:=sector (l.flatMap Ent.bits)
theorem dirSec_len {l:List Ent} (h:l.length≤5):(dirSec l).length=128:=sector_len (by rw [ents_len];omega)
theorem dirSec_lt (l:List Ent): ∀x∈dirSec l,x<256:=sector_lt _
def fives:List Ent→List (List Ent)
 | []=> []
 | x::l=>(x::l).take 5::fives ((x::l).drop 5)
termination_by l=>l.length
decreasing_by simp;omega
theorem fives_nil:fives []= []:=by unfold fives;rfl
theorem fives_cons {l:List Ent} (h:l≠ []):fives l=l.take 5::fives (l.drop 5):=by
 cases l with
 | nil=>exact absurd rfl h
 | cons x l=>rw [fives]
theorem fives_len: ∀(n:Nat) (l:List Ent),l.length≤n→(fives l).length=(l.length+4)/5
 | 0,l,h=>by
  obtain rfl:l= []:=List.eq_nil_of_length_eq_zero (by omega)
  rw [fives_nil]
  rfl
 | n+1,l,h=>by
  by_cases h0:l= []
  ·subst h0
   rw [fives_nil]
   rfl
  ·have hp:=List.length_pos_iff.2 h0
   rw [fives_cons h0,List.length_cons,fives_len n (l.drop 5) (by rw [List.length_drop];omega),List.length_drop]
   omega
theorem fives_get: ∀(n:Nat) (l:List Ent) (k:Nat),l.length≤n→k<(l.length+4)/5→(fives l)[k]?=some ((l.drop (5*k)).take 5)
 | 0,l,k,h,hk=>by omega
 | n+1,l,k,h,hk=>by
  have h0:l≠ []:=fun e=>by subst e;simp at hk
  have hp:=List.length_pos_iff.2 h0
  rw [fives_cons h0]
  cases k with
  | zero=>rfl
  | succ k=>
   rw [List.getElem?_cons_succ,fives_get n (l.drop 5) k (by rw [List.length_drop];omega) (by rw [List.length_drop];omega),List.drop_drop,show 5+5*k=5*(k+1) by omega]
def dirB (l:List Ent):List (List Nat):=(fives l).map dirSec
theorem dirB_len (l:List Ent):(dirB l).length=(l.length+4)/5:=by
 unfold dirB
 rw [List.length_map,fives_len _ l (Nat.le_refl _)]
theorem dirB_get {l:List Ent} {k:Nat} (hk:k<(l.length+4)/5):(dirB l)[k]?=some (dirSec ((l.drop (5*k)).take 5)):=by
 unfold dirB
 rw [List.getElem?_map,fives_get _ l k (Nat.le_refl _) hk]
 rfl
theorem dirB_sec {l:List Ent} {b:List Nat} (h:b∈dirB l):b.length=128∧ ∀x∈b,x<256:=by
 obtain ⟨k,hk⟩:=List.mem_iff_getElem?.1 h
 have hl:k<(l.length+4)/5:=by
  have:=(List.getElem?_eq_some_iff.1 hk).1
  rwa [dirB_len] at this
 rw [dirB_get hl] at hk
 cases hk
 exact ⟨dirSec_len (by rw [List.length_take];omega),dirSec_lt _⟩
def rdN (U:List Bool) (a k:Nat):Nat:=natOf ((U.drop a).take k)
def rdName (U:List Bool) (a:Nat):List Nat:=(List.range 16).map fun i=>rdN U (a+44+8*i) 8
def cutName (l:List Nat) (n:Nat):ByteArray:=⟨((l.take (min n 16)).map fun x=>UInt8.ofNat x).toArray⟩
def entAt (U:List Bool) (a:Nat):Ent:=⟨cutName (rdName U a) (rdN U a 5),rdN U (a+5) 6,rdN U (a+11) 31,rdN U (a+42) 2⟩
theorem rdN_lt (U:List Bool) (a k:Nat):rdN U a k<2 ^ k:=Nat.lt_of_lt_of_le (natOf_lt _) (Nat.pow_le_pow_right (by decide) (by rw [List.length_take];exact Nat.min_le_left _ _))
theorem rdN_at {A Z:List Bool} {x k:Nat} (hx:x<2 ^ k):rdN (A++(bitsN x k++Z)) A.length k=x:=by
 unfold rdN
 rw [List.drop_left,List.take_append_of_le_length (by rw [bitsN_len];exact Nat.le_refl _),List.take_of_length_le (by rw [bitsN_len];exact Nat.le_refl _),natOf_bitsN,Nat.mod_eq_of_lt hx]
theorem rdN_at' {U A Z:List Bool} {a x k:Nat} (hx:x<2 ^ k) (hU:U=A++(bitsN x k++Z)) (ha:A.length=a):rdN U a k=x:=by
 subst hU ha
 exact rdN_at hx
theorem rdName_at {U A Z:List Bool} {s:ByteArray} {a:Nat} (hU:U=A++((nameB s).flatMap (bitsN · 8)++Z)) (ha:A.length=a+44):rdName U a=nameB s:=by
 apply List.ext_getElem
 ·simp [rdName,nameB]
 ·intro i h1 h2
  have hi:i<16:=by rw [nameB_len] at h2;exact h2
  have hr:(rdName U a)[i]'h1=rdN U (a+44+8*i) 8:=by simp [rdName]
  refine hr.trans ?_
  have hsp:nameB s=(nameB s).take i++((nameB s)[i]'h2::(nameB s).drop (i+1)):=by
   rw [List.getElem_cons_drop,List.take_append_drop]
  generalize hc:(nameB s)[i]'h2=c at*
  have hc8:c<2 ^ 8:=by rw [←hc];exact nameB_lt s _ (List.getElem_mem _)
  refine rdN_at' (A:=A++((nameB s).take i).flatMap (bitsN · 8)) (Z:=((nameB s).drop (i+1)).flatMap (bitsN · 8)++Z) hc8 ?_ ?_
  ·rw [hU]
   conv=>lhs;rw [hsp]
   rw [List.flatMap_append,List.flatMap_cons]
   simp
  ·rw [List.length_append,bflat_len,List.length_take,nameB_len,ha]
   omega
theorem cutName_at {s:ByteArray} (h:s.size≤16):cutName (nameB s) s.size=s:=by
 refine bsz_ext ?_
 unfold cutName bsz
 simp only
 rw [Nat.min_eq_left h]
 apply List.ext_getElem
 ·simp [nameB_len,h]
 ·intro i h1 h2
  have h2':i<(bsz s).length:=h2
  simp only [List.getElem_map,List.getElem_take]
  unfold nameB
  rw [List.getElem_map,List.getElem_range,List.getElem?_eq_getElem h2']
  simp
  rfl
theorem entAt_bits {U A Z:List Bool} {e:Ent} {a:Nat} (hf:e.fits) (hU:U=A++(e.bits++Z)) (ha:A.length=a):entAt U a=e:=by
 obtain ⟨s,n,g,k⟩:=e
 have hl:s.size≤16:=hf.len
 have h1:rdN U a 5=s.size:=rdN_at' (A:=A) (Z:=bitsN n 6++(bitsN g 31++(bitsN k 2++((nameB s).flatMap (bitsN · 8)++Z)))) (by show s.size<32;omega) (by rw [hU];simp [Ent.bits]) ha
 have h2:rdN U (a+5) 6=n:=rdN_at' (A:=A++bitsN s.size 5) (Z:=bitsN g 31++(bitsN k 2++((nameB s).flatMap (bitsN · 8)++Z))) hf.ino (by rw [hU];simp [Ent.bits]) (by rw [List.length_append,bitsN_len,ha])
 have h3:rdN U (a+11) 31=g:=rdN_at' (A:=A++bitsN s.size 5++bitsN n 6) (Z:=bitsN k 2++((nameB s).flatMap (bitsN · 8)++Z)) hf.gen (by rw [hU];simp [Ent.bits]) (by rw [List.length_append,List.length_append,bitsN_len,bitsN_len,ha])
 have h4:rdN U (a+42) 2=k:=rdN_at' (A:=A++bitsN s.size 5++bitsN n 6++bitsN g 31) (Z:=(nameB s).flatMap (bitsN · 8)++Z) hf.kind (by rw [hU];simp [Ent.bits]) (by simp only [List.length_append,bitsN_len,ha])
 have h5:rdName U a=nameB s:=rdName_at (A:=A++bitsN s.size 5++bitsN n 6++bitsN g 31++bitsN k 2) (Z:=Z) (by rw [hU];simp [Ent.bits]) (by simp only [List.length_append,bitsN_len,ha])
 unfold entAt
 rw [h1,h2,h3,h4,h5,cutName_at hl]
theorem unpack_secD {L:List Bool} (h:L.length≤1024):unpack (sector L)=L++List.replicate (1024-L.length) false:=by
 have hz: ∀n,unpack (List.replicate n 0)=List.replicate (8*n) false:=fun n=>by
  induction n with
  | zero=>rfl
  | succ n ih=>
   rw [List.replicate_succ,show (0::List.replicate n 0)= [0]++List.replicate n 0 from rfl,unpack_append,ih,show 8*(n+1)=8+8*n by omega, ←List.replicate_append_replicate]
   rfl
 unfold sector
 rw [unpack_append,unpack_pack,hz,List.append_assoc,List.replicate_append_replicate,pack_len]
 congr 2
 omega
theorem entAt_sec {l:List Ent} (hl:l.length≤5) (hf: ∀e∈l,e.fits) {i:Nat} (hi:i<5):(∀e,l[i]?=some e→entAt (unpack (dirSec l)) (172*i)=e)∧(l[i]?=none→(entAt (unpack (dirSec l)) (172*i)).name=ByteArray.empty):=by
 have hlen:(l.flatMap Ent.bits).length=172*l.length:=ents_len l
 unfold dirSec
 rw [unpack_secD (by rw [hlen];omega)]
 constructor
 ·intro e he
  have hil:=(List.getElem?_eq_some_iff.1 he).1
  have hsp:l=l.take i++(e::l.drop (i+1)):=by
   obtain ⟨_,h2⟩:=List.getElem?_eq_some_iff.1 he
   rw [←h2,List.getElem_cons_drop,List.take_append_drop]
  refine entAt_bits (A:=(l.take i).flatMap Ent.bits) (Z:=(l.drop (i+1)).flatMap Ent.bits++List.replicate (1024-(l.flatMap Ent.bits).length) false) (hf e (List.mem_of_getElem? he)) ?_ ?_
  ·conv=>lhs;arg 1;rw [hsp]
   rw [List.flatMap_append,List.flatMap_cons]
   simp
  ·rw [ents_len,List.length_take]
   omega
 ·intro hn
  have hil:=List.getElem?_eq_none_iff.1 hn
  have h5:rdN (l.flatMap Ent.bits++List.replicate (1024-(l.flatMap Ent.bits).length) false) (172*i) 5=0:=by
   unfold rdN
   rw [List.drop_append,List.drop_of_length_le (by rw [hlen];omega),List.nil_append,List.drop_replicate,List.take_replicate]
   have: ∀n,natOf (List.replicate n false)=0:=fun n=>by
    induction n with
    | zero=>rfl
    | succ n ih=>
     rw [List.replicate_succ]
     simp [natOf,ih]
   exact this _
  unfold entAt
  rw [h5]
  rfl
end Go.Tn.Dr
