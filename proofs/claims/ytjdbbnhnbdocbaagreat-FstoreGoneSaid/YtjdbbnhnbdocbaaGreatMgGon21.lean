import Derived.Test.YtjdbbnhnbdocbaaGreatMgGon20
namespace Go.Tn.Bt
open Go.Tn
end Go.Tn.Bt
namespace Go.Tn.Dk
open Go.Tn Go.Tn.Bt Go.Tn.Lp
end Go.Tn.Dk
namespace Go.Proofs.YtjdbbnhnbdocbaaGreat
open Go.RowKit Go.Tn Go.Tn.Bt Go.Tn.Lp Go.Tn.Dk
end Go.Proofs.YtjdbbnhnbdocbaaGreat
namespace Go.Tn.Lp
open Go.Tn
theorem numOf_append (a:List Nat): ∀b:List Nat,numOf (a++b)=numOf a*256 ^ b.length+numOf b:=by
 intro b
 generalize hn:b.length=n
 induction n generalizing b with
 | zero=>
  have:b= []:=List.eq_nil_of_length_eq_zero hn
  subst this
  simp [numOf]
 | succ n ih=>
  obtain ⟨i,c,rfl⟩: ∃i c,b=i++ [c]:=⟨b.dropLast,b.getLast (fun e=>by rw [e] at hn;simp at hn),(List.dropLast_concat_getLast _).symm⟩
  rw [←List.append_assoc,numOf_snoc,numOf_snoc,ih i (by simpa using hn),Nat.pow_succ,Nat.add_mul,Nat.mul_assoc,Nat.add_assoc]
theorem numOf_bytesN (x:Nat): ∀n,numOf (bytesN x n)=x %256 ^ n
 | 0=>by simp [bytesN,numOf,Nat.mod_one]
 | n+1=>by
  have h:=numOf_append [x/256 ^ n %256] (bytesN x n)
  rw [show bytesN x (n+1)= [x/256 ^ n %256]++bytesN x n from rfl,h,bytesN_len,numOf_bytesN x n]
  rw [show numOf [x/256 ^ n %256]=x/256 ^ n %256 by simp [numOf]]
  rw [Nat.mod_pow_succ,Nat.mul_comm (x/256 ^ n %256),Nat.add_comm]
theorem take_writeAt {bs L:List Nat} {o n:Nat} (h:o+bs.length≤L.length) (hn:n≤o):(writeAt L o bs).take n=L.take n:=by
 rw [writeAt_eq bs L o h,List.append_assoc,List.take_append_of_le_length (by rw [List.length_take];omega),List.take_take,Nat.min_eq_left hn]
theorem get_writeAt_lt {bs L:List Nat} {o i:Nat} (h:o+bs.length≤L.length) (hi:i<o):(writeAt L o bs)[i]?=L[i]?:=by
 have:=congrArg (fun l=>l[i]?) (take_writeAt (n:=o) h (Nat.le_refl _))
 simp only [List.getElem?_take,hi,if_true] at this
 exact this
def stampN (p:Pc):Nat:=p.ep*1099511627776+p.ct
theorem seal_front (p:Pc) (h:p.da.length≤106):(sealB p).take 8=bytesN (stampN p) 8:=by
 have h3:=seal3_len p
 unfold sealB
 rw [take_writeAt (by simp [writeAt_len,bytesN_len,h3]) (by decide),take_writeAt (by simp [bytesN_len,h3]) (by decide)]
 unfold seal3
 rw [take_writeAt (by simp [writeAt_len];omega) (by decide),List.take_set_of_le (by decide),List.take_set_of_le (by decide),writeAt_eq _ _ _ (by simp [bytesN_len])]
 simp only [List.take_zero,List.nil_append]
 rw [List.take_append_of_le_length (by simp [bytesN_len]),List.take_of_length_le (by simp [bytesN_len])]
 rfl
theorem seal_back (p:Pc):(sealB p).drop 120=bytesN (stampN p) 8:=by
 have h3:=seal3_len p
 unfold sealB
 rw [writeAt_eq _ _ 120 (by simp [writeAt_len,bytesN_len,h3])]
 have hl:(List.take 120 (writeAt (seal3 p) 116 (bytesN (fsum (List.take 116 (seal3 p))) 4))++bytesN (p.ep*1099511627776+p.ct) 8).length=128:=by simp [writeAt_len,bytesN_len,h3]
 rw [List.drop_append_of_le_length (by omega),List.drop_append_of_le_length (by simp [writeAt_len,h3])]
 have hz1:List.drop 120 (List.take 120 (writeAt (seal3 p) 116 (bytesN (fsum (List.take 116 (seal3 p))) 4)))= []:=List.drop_eq_nil_of_le (by simp [writeAt_len,h3])
 have hz2:List.drop (120+(bytesN (p.ep*1099511627776+p.ct) 8).length) (writeAt (seal3 p) 116 (bytesN (fsum (List.take 116 (seal3 p))) 4))= []:=List.drop_eq_nil_of_le (by simp [writeAt_len,bytesN_len,h3])
 rw [hz1,hz2,List.nil_append,List.append_nil]
 rfl
theorem seal_at8 (p:Pc) (h:p.da.length≤106):(sealB p)[8]?=some (flagsN p.fi p.la)∧(sealB p)[9]?=some p.da.length:=by
 have h3:=seal3_len p
 have key: ∀i,i<10→(sealB p)[i]?=(((writeAt (List.replicate 128 0) 0 (bytesN (p.ep*1099511627776+p.ct) 8)).set 8 (flagsN p.fi p.la)).set 9 p.da.length)[i]?:=fun i hi=>by
  unfold sealB
  rw [get_writeAt_lt (by simp [writeAt_len,bytesN_len,h3]) (by omega),get_writeAt_lt (by simp [bytesN_len,h3]) (by omega)]
  unfold seal3
  rw [get_writeAt_lt (by simp [writeAt_len];omega) hi]
 refine ⟨?_,?_⟩
 ·rw [key 8 (by decide),List.getElem?_set_ne (by decide),List.getElem?_set_self (by simp [writeAt_len])]
 ·rw [key 9 (by decide),List.getElem?_set_self (by simp [writeAt_len])]
theorem seal_data (p:Pc) (h:p.da.length≤106):((sealB p).drop 10).take p.da.length=p.da:=by
 have h3:=seal3_len p
 have h1:(sealB p).take 116=(seal3 p).take 116:=by
  unfold sealB
  rw [take_writeAt (by simp [writeAt_len,bytesN_len,h3]) (by decide),take_writeAt (by simp [bytesN_len,h3]) (by decide)]
 have h2:(sealB p).take (10+p.da.length)=(seal3 p).take (10+p.da.length):=by
  have:=congrArg (List.take (10+p.da.length)) h1
  rwa [List.take_take,List.take_take,Nat.min_eq_left (by omega)] at this
 rw [List.take_drop,Nat.add_comm,Nat.add_comm p.da.length 10,h2]
 unfold seal3
 rw [writeAt_eq _ _ 10 (by simp [writeAt_len];omega)]
 rw [List.take_append_of_le_length (by simp [writeAt_len]),List.take_of_length_le (by simp [writeAt_len])]
 rw [List.drop_append_of_le_length (by simp [writeAt_len]),List.drop_eq_nil_of_le (by simp [writeAt_len]),List.nil_append]
theorem unseal_seal {p:Pc} (h:p.ok):unsealB (sealB p)=some p:=by
 obtain ⟨h1,h2,h3⟩:=h
 obtain ⟨h8,h9⟩:=seal_at8 p h3
 have hf:=seal_front p h3
 have hP:pieceOf (sealB p)=p:=by
  unfold pieceOf
  rw [hf,numOf_bytesN]
  rw [List.getD_eq_getElem?_getD,h8,List.getD_eq_getElem?_getD,h9]
  simp only [Option.getD_some]
  rw [seal_data p h3]
  have hs:stampN p %256 ^ 8=stampN p:=Nat.mod_eq_of_lt (by unfold stampN;omega)
  rw [hs]
  have e1:stampN p/1099511627776=p.ep:=by unfold stampN;omega
  have e2:stampN p %1099511627776=p.ct:=by unfold stampN;omega
  rw [e1,e2]
  obtain ⟨ep,ct,fi,la,da⟩:=p
  cases fi<;>cases la<;>simp [flagsN]
 unfold unsealB
 rw [if_pos ⟨sealB_len p,by rw [List.getD_eq_getElem?_getD,h9];exact h3,by rw [hP]⟩,hP]
theorem seal_unseal {b:List Nat} {p:Pc} (h:unsealB b=some p):sealB p=b:=by
 unfold unsealB at h
 split at h
 ·rename_i hc
  cases h
  exact hc.2.2
 ·cases h
end Go.Tn.Lp
namespace Go.Proofs.YtjdbbnhnbdocbaaGreat
open Go.RowKit Go.Tn Go.Tn.Bt Go.Tn.Lp Go.Tn.Dk
end Go.Proofs.YtjdbbnhnbdocbaaGreat
namespace Go.Proofs.YtjdbbnhnbdocbaaGreat
open Go.RowKit Go.Tn Go.Tn.Bt Go.Tn.Lp Go.Tn.Dk
structure Rc where
 ep:Nat
 ps:List Pt
def Rc.n (r:Rc):Nat:=cutN (recB r.ps)
def Rc.pcs (r:Rc) (ct:Nat):List Pc:=cutL r.ep ct (recB r.ps)
structure Rc.good (r:Rc) (homes ct:Nat):Prop where
 tr:transB r.ps homes=true
 by8: ∀p∈r.ps, ∀x∈p.2,x<256
 cut:cutB r.ep ct (recB r.ps)= .ok (r.pcs ct)
theorem Rc.len (r:Rc) (ct:Nat):(r.pcs ct).length=r.n:=cutL_len _ _ _
theorem Rc.pos (r:Rc):1≤r.n:=cutN_pos _
theorem Rc.get (r:Rc) (ct:Nat) {i:Nat} (hi:i<r.n):(r.pcs ct)[i]?=some (pieceAt r.ep ct (recB r.ps) i):=by
 unfold Rc.pcs cutL
 rw [List.getElem?_map,List.getElem?_range (show i<cutN (recB r.ps) from hi)]
 rfl
def endCt (ct:Nat) (rs:List Rc):Nat:=rs.foldl (fun c r=>c+r.n) ct
def lastF (f:Nat) (rs:List Rc):Nat:=rs.foldl (fun _ r=>r.ep) f
def applyH (H:Nat→Option (List Nat)) (rs:List Rc):Nat→Option (List Nat):=rs.foldl (fun H r=>takeH H r.ps) H
theorem endCt_le: ∀(rs:List Rc) (ct:Nat),ct+rs.length≤endCt ct rs
 | [],ct=>Nat.le_refl _
 | r::rs,ct=>by
  have:=endCt_le rs (ct+r.n)
  have:=r.pos
  show _≤endCt (ct+r.n) rs
  simp only [List.length_cons]
  omega
theorem endCt_append (ct:Nat) (a b:List Rc):endCt ct (a++b)=endCt (endCt ct a) b:=List.foldl_append
theorem lastF_append (f:Nat) (a b:List Rc):lastF f (a++b)=lastF (lastF f a) b:=List.foldl_append
theorem applyH_append (H:Nat→Option (List Nat)) (a b:List Rc):applyH H (a++b)=applyH (applyH H a) b:=List.foldl_append
def Chain (d:Dsk) (n homes:Nat):Nat→Nat→List Rc→Prop
 | _,_, []=>True
 | ct,f,r::rs=>f≤r.ep∧r.good homes ct∧(∀q∈r.pcs ct,d.get (2+q.ct %n)=sealB q)∧Chain d n homes (ct+r.n) r.ep rs
theorem Rc.good.ok {r:Rc} {homes ct:Nat} (h:r.good homes ct): ∀q∈r.pcs ct,q.ok:=by
 have hc:=h.cut
 unfold cutB at hc
 split at hc
 ·cases hc
 ·rename_i h1
  exact cutL_ok (by omega) (by omega) (by omega)
theorem pieceB_seal {d:Dsk} {n:Nat} {q:Pc} (hq:q.ok) (h:d.get (2+q.ct %n)=sealB q):pieceB d n q.ct=some q:=by
 unfold pieceB
 rw [h,unseal_seal hq]
 simp
def stepB (d:Dsk) (l:Lg) (f:Nat):Option (Lg×Nat):=match joinB (l.recordB d f) with
 | none=>none
 | some b=>match decB b (l.homes d) with
  | none=>none
  | some ps=>some ({l with H:=takeH l.H ps,next:=l.next+(l.recordB d f).length},((l.recordB d f).head?.map (·.ep)).getD 0)
def Lg.behind (l:Lg) (rs:List Rc):Lg:={l with H:=applyH l.H rs,next:=endCt l.next rs}
def allPcs:Nat→List Rc→List Pc
 | _, []=> []
 | ct,r::rs=>r.pcs ct++allPcs (ct+r.n) rs
def Goods (homes E:Nat):Nat→List Rc→Prop
 | _, []=>True
 | ct,r::rs=>r.ep=E∧r.good homes ct∧Goods homes E (ct+r.n) rs
theorem mem_pcs {r:Rc} {ct:Nat} {q:Pc} (h:q∈r.pcs ct): ∃i,i<r.n∧q=pieceAt r.ep ct (recB r.ps) i:=by
 obtain ⟨i,hi⟩:=List.mem_iff_getElem?.1 h
 have hl:=(List.getElem?_eq_some_iff.1 hi).1
 rw [r.len] at hl
 rw [r.get ct hl] at hi
 exact ⟨i,hl,(Option.some.inj hi).symm⟩
theorem allPcs_ct: ∀(rs:List Rc) (ct:Nat), ∀q∈allPcs ct rs,ct≤q.ct∧q.ct<endCt ct rs
 | [],ct,q,h=>by cases h
 | r::rs,ct,q,h=>by
  have hle:=endCt_le rs (ct+r.n)
  show ct≤q.ct∧q.ct<endCt (ct+r.n) rs
  rcases List.mem_append.1 h with h|h
  ·obtain ⟨i,hi,rfl⟩:=mem_pcs h
   simp only [pieceAt]
   omega
  ·have:=allPcs_ct rs (ct+r.n) q h
   omega
theorem allPcs_ep {homes E:Nat}: ∀(rs:List Rc) (ct:Nat),Goods homes E ct rs→ ∀q∈allPcs ct rs,q.ep=E
 | [],ct,_,q,h=>by cases h
 | r::rs,ct,hg,q,h=>by
  rcases List.mem_append.1 h with h|h
  ·obtain ⟨i,hi,rfl⟩:=mem_pcs h
   exact hg.1
  ·exact allPcs_ep rs _ hg.2.2 q h
theorem pieceB_get {d:Dsk} {n c:Nat} {q:Pc} (h:pieceB d n c=some q):d.get (2+c %n)=sealB q∧q.ct=c:=by
 unfold pieceB at h
 cases hu:unsealB (d.get (2+c %n)) with
 | none=>rw [hu] at h;cases h
 | some x=>
  rw [hu] at h
  simp only at h
  split at h
  ·cases h
   exact ⟨(seal_unseal hu).symm,by assumption⟩
  ·cases h
theorem recGo_old {d d':Dsk} {n next f E b:Nat} (hM: ∀c,next≤c→c<b→pieceB d' n c=pieceB d n c∨pieceB d' n c=none∨ ∃q,pieceB d' n c=some q∧q.ep=E) (p0:Pc) (hp:p0.ep<E):
  ∀(m:Nat) (r:List Pc),next+(p0::r).length+m≤b→recGo d' n next f m (p0::r)= []∨recGo d' n next f m (p0::r)=recGo d n next f m (p0::r)
 | 0,r,_=> .inl rfl
 | m+1,r,hb=>by
  rcases hM (next+(p0::r).length) (by omega) (by omega) with h|h|⟨q,h,hq⟩
  ·simp only [recGo,h]
   cases hq:pieceB d n (next+(p0::r).length) with
   | none=>exact .inl rfl
   | some q=>
    simp only
    split
    ·split
     ·exact .inr rfl
     ·rw [show p0::r++ [q]=p0::(r++ [q]) from rfl]
      exact recGo_old hM p0 hp m (r++ [q]) (by simp at hb ⊢;omega)
    ·exact .inl rfl
  ·left
   simp only [recGo,h]
  ·left
   simp only [recGo,h]
   rw [if_neg (fun hc=>by omega)]
theorem recGo_miss {d d':Dsk} {n ct f E:Nat} {r:Rc} (hE:r.ep=E) (hold: ∀c q,ct≤c→c<ct+r.n→pieceB d n c=some q→q.ep<E)
  (hM: ∀i,i<r.n→pieceB d' n (ct+i)=some (pieceAt r.ep ct (recB r.ps) i)∨pieceB d' n (ct+i)=pieceB d n (ct+i)∨pieceB d' n (ct+i)=none)
  (i0:Nat) (hi0:i0<r.n) (hmiss:pieceB d' n (ct+i0)≠some (pieceAt r.ep ct (recB r.ps) i0)):
  ∀(m k:Nat),0<k→k≤i0→recGo d' n ct f m ((r.pcs ct).take k)= []
 | 0,k,_,_=>by simp [recGo]
 | m+1,k,hk0,hk=>by
  have hlen:((r.pcs ct).take k).length=k:=by rw [List.length_take,r.len];omega
  obtain ⟨p0,t,hpt,hp0⟩: ∃p0 t,(r.pcs ct).take k=p0::t∧p0.ep=r.ep:=by
   cases hc:r.pcs ct with
   | nil=>have:=r.len ct;rw [hc] at this;simp at this;omega
   | cons a b=>
    obtain ⟨k',rfl⟩: ∃k',k=k'+1:=⟨k-1,by omega⟩
    refine ⟨a,b.take k',rfl,?_⟩
    have h0:=r.get ct (i:=0) (by omega)
    rw [hc] at h0
    cases h0
    rfl
  have hkn:k<r.n:=by omega
  by_cases hnew:pieceB d' n (ct+k)=some (pieceAt r.ep ct (recB r.ps) k)
  ·have hki:k≠i0:=fun e=>hmiss (by rw [←e];exact hnew)
   have hsn:(r.pcs ct).take (k+1)=(r.pcs ct).take k++ [pieceAt r.ep ct (recB r.ps) k]:=by rw [List.take_add_one,r.get ct hkn];rfl
   have hpc:pieceB d' n (ct+(p0::t).length)=some (pieceAt r.ep ct (recB r.ps) k):=by rw [←hpt,hlen];exact hnew
   rw [hpt]
   simp only [recGo,hpc]
   rw [if_pos ⟨by simp only [pieceAt,decide_eq_false_iff_not];omega,by rw [hp0];rfl⟩,if_neg (by simp only [pieceAt,decide_eq_true_eq];unfold Rc.n at*;omega)]
   rw [←hpt, ←hsn]
   exact recGo_miss hE hold hM i0 hi0 hmiss m (k+1) (by omega) (by omega)
  ·have hno: ∀q,pieceB d' n (ct+k)=some q→q.ep<E:=fun q hq=>by
    rcases hM k hkn with h|h|h
    ·exact absurd h hnew
    ·exact hold (ct+k) q (by omega) (by omega) (by rw [←h];exact hq)
    ·rw [h] at hq;cases hq
   rw [hpt]
   have hl2:ct+(p0::t).length=ct+k:=by rw [←hpt,hlen]
   simp only [recGo,hl2]
   cases hq:pieceB d' n (ct+k) with
   | none=>rfl
   | some q=>
    have:=hno q hq
    simp only
    rw [if_neg (fun hc=>by omega)]
theorem stepB_nil {d:Dsk} {l:Lg} {f:Nat} (h:l.recordB d f= []):stepB d l f=none:=by
 unfold stepB
 rw [h]
 rfl
theorem stepB_same {d d':Dsk} {l:Lg} {f:Nat} (hL:d'.L.length=d.L.length) (h:l.recordB d' f=l.recordB d f) (hs:stepB d l f=none):stepB d' l f=none:=by
 have hh:l.homes d'=l.homes d:=by unfold Lg.homes;rw [hL]
 unfold stepB at hs ⊢
 rw [h,hh]
 cases hj:joinB (l.recordB d f) with
 | none=>rfl
 | some b=>
  rw [hj] at hs
  simp only at hs ⊢
  cases hd:decB b (l.homes d) with
  | none=>rfl
  | some ps=>rw [hd] at hs;cases hs
theorem step_old {d d':Dsk} {l:Lg} {f E:Nat} (hL:d'.L.length=d.L.length) (ht:l.tail≤l.next) (hfE:f=E∨stepB d l f=none)
  (hold: ∀c q,l.next≤c→c<l.tail+l.n→pieceB d l.n c=some q→q.ep<E)
  (hM: ∀c,l.next≤c→c<l.tail+l.n→pieceB d' l.n c=pieceB d l.n c∨pieceB d' l.n c=none∨ ∃q,pieceB d' l.n c=some q∧q.ep=E)
  (h0:l.next<l.tail+l.n→pieceB d' l.n l.next=pieceB d l.n l.next∨pieceB d' l.n l.next=none):stepB d' l f=none:=by
 have hfr:l.free=l.n-(l.next-l.tail):=rfl
 cases hm:l.free with
 | zero=>exact stepB_nil (by unfold Lg.recordB;rw [hm];rfl)
 | succ m=>
  have hlt:l.next<l.tail+l.n:=by omega
  have e: ∀x:Dsk,l.recordB x f=recGo x l.n l.next f (m+1) []:=fun x=>by unfold Lg.recordB;rw [hm]
  have hz:l.next+([]:List Pc).length=l.next:=rfl
  rcases h0 hlt with h|h
  ·cases hq:pieceB d l.n l.next with
   | none=>exact stepB_nil (by rw [e];simp only [recGo,hz,h,hq])
   | some q=>
    have hqE:=hold _ q (Nat.le_refl _) hlt hq
    rcases hfE with rfl|hs
    ·refine stepB_nil (by
      rw [e]
      simp only [recGo,hz,h,hq]
      rw [if_neg (fun hc=>by omega)])
    ·have key:l.recordB d' f= []∨l.recordB d' f=l.recordB d f:=by
      rw [e,e]
      simp only [recGo,hz,h,hq]
      split
      ·split
       ·exact .inr rfl
       ·exact recGo_old hM q hqE m [] (by simp;omega)
      ·exact .inl rfl
     rcases key with key|key
     ·exact stepB_nil key
     ·exact stepB_same hL key hs
  ·exact stepB_nil (by rw [e];simp only [recGo,hz,h])
theorem mix_chain {d d':Dsk} {E:Nat} (hL:d'.L.length=d.L.length): ∀(P:List Rc) (l:Lg) (f:Nat),l.homes d≤4096→Goods (l.homes d) E l.next P→l.tail≤l.next→endCt l.next P≤l.tail+l.n→f≤E→(f=E∨stepB d l f=none)→
  (∀c q,l.next≤c→c<l.tail+l.n→pieceB d l.n c=some q→q.ep<E)→
  (∀c,l.next≤c→c<l.tail+l.n→pieceB d' l.n c=pieceB d l.n c∨pieceB d' l.n c=none∨ ∃q∈allPcs l.next P,q.ct=c∧pieceB d' l.n c=some q)→
  ∃j,j≤P.length∧Chain d' l.n (l.homes d) l.next f (P.take j)∧stepB d' (Lg.behind l (P.take j)) (lastF f (P.take j))=none
 | [],l,f,hh,hg,ht,he,hf,hfE,hold,hM=>by
  refine ⟨0,Nat.le_refl _,trivial,?_⟩
  have hM': ∀c,l.next≤c→c<l.tail+l.n→pieceB d' l.n c=pieceB d l.n c∨pieceB d' l.n c=none:=fun c h1 h2=>by
   rcases hM c h1 h2 with h|h|⟨q,h,_⟩
   ·exact .inl h
   ·exact .inr h
   ·cases h
  exact step_old hL ht hfE hold (fun c h1 h2=>(hM' c h1 h2).imp id .inl) fun h=>hM' _ (Nat.le_refl _) h
 | r::rs,l,f,hh,hg,ht,he,hf,hfE,hold,hM=>by
  obtain ⟨hrE,hgr,hgs⟩:=hg
  have he':endCt (l.next+r.n) rs≤l.tail+l.n:=he
  have hle:=endCt_le rs (l.next+r.n)
  have hpos:=r.pos
  have hMr: ∀i,i<r.n→pieceB d' l.n (l.next+i)=some (pieceAt r.ep l.next (recB r.ps) i)∨pieceB d' l.n (l.next+i)=pieceB d l.n (l.next+i)∨pieceB d' l.n (l.next+i)=none:=fun i hi=>by
   rcases hM (l.next+i) (by omega) (by omega) with h|h|⟨q,hq,hc,h⟩
   ·exact .inr (.inl h)
   ·exact .inr (.inr h)
   ·left
    rcases List.mem_append.1 hq with hq|hq
    ·obtain ⟨j,hj,rfl⟩:=mem_pcs hq
     simp only [pieceAt] at hc
     obtain rfl:j=i:=by omega
     exact h
    ·have:=(allPcs_ct rs _ q hq).1
     omega
  by_cases hall: ∀i,i<r.n→pieceB d' l.n (l.next+i)=some (pieceAt r.ep l.next (recB r.ps) i)
  ·have hS: ∀q∈r.pcs l.next,d'.get (2+q.ct %l.n)=sealB q:=fun q hq=>by
    obtain ⟨i,hi,rfl⟩:=mem_pcs hq
    exact (pieceB_get (hall i hi)).1
   obtain ⟨j,hj,hch,hst⟩:=mix_chain hL rs {l with H:=takeH l.H r.ps,next:=l.next+r.n} r.ep hh hgs (by simp only;omega) he' (by omega) (.inl hrE)
    (fun c q h1 h2 h3=>hold c q (by simp only at h1;omega) h2 h3) (fun c h1 h2=>by
     simp only at h1 h2
     rcases hM c (by omega) h2 with h|h|⟨q,hq,hc,h⟩
     ·exact .inl h
     ·exact .inr (.inl h)
     ·rcases List.mem_append.1 hq with hq|hq
      ·obtain ⟨i,hi,rfl⟩:=mem_pcs hq
       simp only [pieceAt] at hc
       omega
      ·exact .inr (.inr ⟨q,hq,hc,h⟩))
   exact ⟨j+1,by simp only [List.length_cons];omega,⟨by omega,hgr,hS,hch⟩,hst⟩
  ·obtain ⟨i0,hi0,hmiss⟩: ∃i,i<r.n∧pieceB d' l.n (l.next+i)≠some (pieceAt r.ep l.next (recB r.ps) i):=by
    have:=Classical.not_forall.1 hall
    obtain ⟨i,hi⟩:=this
    exact ⟨i,Classical.not_imp.1 hi⟩
   refine ⟨0,Nat.zero_le _,trivial,?_⟩
   show stepB d' l f=none
   by_cases h0:pieceB d' l.n l.next=some (pieceAt r.ep l.next (recB r.ps) 0)
   ·have hi1:1≤i0:=by
     rcases Nat.eq_zero_or_pos i0 with h|h
     ·subst h
      exact absurd h0 hmiss
     ·exact h
    have hfr:l.free=l.n-(l.next-l.tail):=rfl
    refine stepB_nil ?_
    unfold Lg.recordB
    cases hm:l.free with
    | zero=>rfl
    | succ m=>
     have hz:l.next+([]:List Pc).length=l.next:=rfl
     simp only [recGo,hz,h0]
     rw [if_pos ⟨by simp [pieceAt],by simp only [pieceAt];omega⟩,if_neg (by simp only [pieceAt,decide_eq_true_eq];unfold Rc.n at*;omega)]
     have h1:(r.pcs l.next).take 1= [pieceAt r.ep l.next (recB r.ps) 0]:=by
      have:=r.get l.next (i:=0) hpos
      cases hc:r.pcs l.next with
      | nil=>rw [hc] at this;cases this
      | cons a b=>rw [hc] at this;cases this;rfl
     rw [←h1]
     exact recGo_miss hrE (fun c q h2 h3=>hold c q h2 (by omega)) hMr i0 hi0 hmiss m 1 (by decide) hi1
   ·refine step_old hL ht hfE hold (fun c h1 h2=> ?_) fun h=> ?_
    ·rcases hM c h1 h2 with h|h|⟨q,hq,hc,h⟩
     ·exact .inl h
     ·exact .inr (.inl h)
     ·exact .inr (.inr ⟨q,h,allPcs_ep (homes:=l.homes d) (r::rs) l.next ⟨hrE,hgr,hgs⟩ q hq⟩)
    ·have:=hMr 0 hpos
     rw [Nat.add_zero] at this
     exact this.resolve_left h0
end Go.Proofs.YtjdbbnhnbdocbaaGreat
namespace Go.Tn.Dk
open Go.Tn Go.Tn.Bt Go.Tn.Lp
def Dsk.last (d:Dsk):Dsk:={d with Q:= []}
theorem last_get (d:Dsk) (i:Nat):d.last.get i=d.L.getD i []:=rfl
theorem get_last (d:Dsk) (i:Nat):d.get i=seenQ d.Q i (d.last.get i):=rfl
theorem laid_get: ∀(Q:List (Nat×List Nat)) (L:List (List Nat)) (i:Nat),i<L.length→(laid Q L).getD i []=seenQ Q i (L.getD i [])
 | [],_,_,_=>rfl
 | q::Q,L,i,hi=>by
  show (laid Q (L.set q.1 q.2)).getD i []=seenQ Q i (if q.1=i then q.2 else L.getD i [])
  rw [laid_get Q _ i (by rw [List.length_set];exact hi)]
  congr 1
  rw [List.getD_eq_getElem?_getD,List.getElem?_set]
  split
  ·rename_i h
   subst h
   rw [if_pos hi]
   rfl
  ·rw [List.getD_eq_getElem?_getD]
theorem seen_append (Q R:List (Nat×List Nat)) (i:Nat) (s:List Nat):seenQ (Q++R) i s=seenQ R i (seenQ Q i s):=List.foldl_append
theorem seen_no: ∀(Q:List (Nat×List Nat)) (i:Nat) (s:List Nat),(∀q∈Q,q.1≠i)→seenQ Q i s=s
 | [],_,_,_=>rfl
 | q::Q,i,s,h=>by
  show seenQ Q i (if q.1=i then q.2 else s)=s
  rw [if_neg (h q List.mem_cons_self),seen_no Q i s fun x hx=>h x (List.mem_cons_of_mem _ hx)]
theorem seen_or: ∀(Q:List (Nat×List Nat)) (i:Nat) (s:List Nat),seenQ Q i s=s∨ ∃q∈Q,q.1=i∧seenQ Q i s=q.2
 | [],_,_=> .inl rfl
 | q::Q,i,s=>by
  show seenQ Q i (if q.1=i then q.2 else s)=s∨ ∃x∈q::Q,x.1=i∧seenQ Q i (if q.1=i then q.2 else s)=x.2
  rcases seen_or Q i (if q.1=i then q.2 else s) with h|⟨x,hx,h1,h2⟩
  ·rw [h]
   split
   ·exact .inr ⟨q,List.mem_cons_self,by assumption,rfl⟩
   ·exact .inl rfl
  ·exact .inr ⟨x,List.mem_cons_of_mem _ hx,h1,h2⟩
theorem seen_some: ∀(Q:List (Nat×List Nat)) (i:Nat) (s:List Nat),(∃q∈Q,q.1=i)→ ∃q∈Q,q.1=i∧seenQ Q i s=q.2
 | [],_,_,⟨q,h,_⟩=>by cases h
 | q::Q,i,s,h=>by
  show ∃x∈q::Q,x.1=i∧seenQ Q i (if q.1=i then q.2 else s)=x.2
  by_cases hq: ∃x∈Q,x.1=i
  ·obtain ⟨x,hx,h1,h2⟩:=seen_some Q i (if q.1=i then q.2 else s) hq
   exact ⟨x,List.mem_cons_of_mem _ hx,h1,h2⟩
  ·have hqi:q.1=i:=by
    obtain ⟨x,hx,hxi⟩:=h
    rcases List.mem_cons.1 hx with rfl|hx
    ·exact hxi
    ·exact absurd ⟨x,hx,hxi⟩ hq
   refine ⟨q,List.mem_cons_self,hqi,?_⟩
   rw [seen_no Q i _ fun x hx e=>hq ⟨x,hx,e⟩,if_pos hqi]
theorem mod_inj {a b t n:Nat} (ha:t≤a) (ha2:a<t+n) (hb:t≤b) (hb2:b<t+n) (h:a %n=b %n):a=b:=by
 rcases Nat.le_total a b with hab|hab
 ·have h1:=Nat.sub_mod_eq_zero_of_mod_eq h.symm
  have h2:(b-a) %n=b-a:=Nat.mod_eq_of_lt (by omega)
  omega
 ·have h1:=Nat.sub_mod_eq_zero_of_mod_eq h
  have h2:(a-b) %n=a-b:=Nat.mod_eq_of_lt (by omega)
  omega
end Go.Tn.Dk
namespace Go.Proofs.YtjdbbnhnbdocbaaGreat
open Go.RowKit Go.Tn Go.Tn.Bt Go.Tn.Lp Go.Tn.Dk
def ringQ (n:Nat) (ps:List Pc):List (Nat×List Nat):=ps.map fun q=>(2+q.ct %n,sealB q)
theorem allPcs_append: ∀(a b:List Rc) (ct:Nat),allPcs ct (a++b)=allPcs ct a++allPcs (endCt ct a) b
 | [],b,ct=>rfl
 | r::a,b,ct=>by
  show r.pcs ct++allPcs (ct+r.n) (a++b)=(r.pcs ct++allPcs (ct+r.n) a)++allPcs (endCt (ct+r.n) a) b
  rw [allPcs_append a b,List.append_assoc]
theorem allPcs_inj: ∀(rs:List Rc) (ct:Nat), ∀p∈allPcs ct rs, ∀q∈allPcs ct rs,p.ct=q.ct→p=q
 | [],ct=>fun p h=>by cases h
 | r::rs,ct=>fun p hp q hq e=>by
  rcases List.mem_append.1 hp with hp|hp
  ·obtain ⟨i,hi,rfl⟩:=mem_pcs hp
   rcases List.mem_append.1 hq with hq|hq
   ·obtain ⟨j,hj,rfl⟩:=mem_pcs hq
    simp only [pieceAt] at e
    obtain rfl:i=j:=by omega
    rfl
   ·have:=(allPcs_ct rs _ q hq).1
    simp only [pieceAt] at e
    omega
  ·rcases List.mem_append.1 hq with hq|hq
   ·obtain ⟨j,hj,rfl⟩:=mem_pcs hq
    have:=(allPcs_ct rs _ p hp).1
    simp only [pieceAt] at e
    omega
   ·exact allPcs_inj rs _ p hp q hq e
theorem allPcs_all: ∀(rs:List Rc) (ct c:Nat),ct≤c→c<endCt ct rs→ ∃q∈allPcs ct rs,q.ct=c
 | [],ct,c,h1,h2=>by
  have h2:c<ct:=h2
  omega
 | r::rs,ct,c,h1,h2=>by
  by_cases h:c<ct+r.n
  ·refine ⟨pieceAt r.ep ct (recB r.ps) (c-ct),List.mem_append_left _ ?_,?_⟩
   ·exact List.mem_of_getElem? (r.get ct (i:=c-ct) (by omega))
   ·simp only [pieceAt]
    omega
  ·obtain ⟨q,hq,hc⟩:=allPcs_all rs (ct+r.n) c (by omega) h2
   exact ⟨q,List.mem_append_right _ hq,hc⟩
def Rise (homes:Nat):Nat→Nat→List Rc→Prop
 | _,_, []=>True
 | ct,f,r::rs=>f≤r.ep∧r.good homes ct∧Rise homes (ct+r.n) r.ep rs
theorem chain_iff (d:Dsk) (n homes:Nat): ∀(rs:List Rc) (ct f:Nat),Chain d n homes ct f rs↔Rise homes ct f rs∧ ∀q∈allPcs ct rs,d.get (2+q.ct %n)=sealB q
 | [],ct,f=>⟨fun _=>⟨trivial,fun q hq=>by cases hq⟩,fun _=>trivial⟩
 | r::rs,ct,f=>by
  constructor
  ·rintro ⟨h1,h2,h3,h4⟩
   obtain ⟨h5,h6⟩:=(chain_iff d n homes rs _ _).1 h4
   refine ⟨⟨h1,h2,h5⟩,fun q hq=> ?_⟩
   rcases List.mem_append.1 hq with hq|hq
   ·exact h3 q hq
   ·exact h6 q hq
  ·rintro ⟨⟨h1,h2,h5⟩,h6⟩
   exact ⟨h1,h2,fun q hq=>h6 q (List.mem_append_left _ hq),(chain_iff d n homes rs _ _).2 ⟨h5,fun q hq=>h6 q (List.mem_append_right _ hq)⟩⟩
theorem rise_append (homes:Nat): ∀(a b:List Rc) (ct f:Nat),Rise homes ct f (a++b)↔Rise homes ct f a∧Rise homes (endCt ct a) (lastF f a) b
 | [],b,ct,f=>⟨fun h=>⟨trivial,h⟩,fun h=>h.2⟩
 | r::a,b,ct,f=>by
  have ih:=rise_append homes a b (ct+r.n) r.ep
  constructor
  ·rintro ⟨h1,h2,h3⟩
   obtain ⟨h4,h5⟩:=ih.1 h3
   exact ⟨⟨h1,h2,h4⟩,h5⟩
  ·rintro ⟨⟨h1,h2,h3⟩,h4⟩
   exact ⟨h1,h2,ih.2 ⟨h3,h4⟩⟩
theorem rise_goods {homes E:Nat}: ∀(P:List Rc) (ct f:Nat),f≤E→Goods homes E ct P→Rise homes ct f P
 | [],_,_,_,_=>trivial
 | r::P,ct,f,hf,⟨h1,h2,h3⟩=>⟨by omega,h2,rise_goods P _ _ (by omega) h3⟩
theorem lastF_goods {homes E:Nat}: ∀(P:List Rc) (ct f:Nat),Goods homes E ct P→P≠ []→lastF f P=E
 | [],_,_,_,h=>absurd rfl h
 | [r],_,_,⟨h1,_⟩,_=>h1
 | r::s::P,ct,f,⟨h1,h2,h3⟩,_=>lastF_goods (s::P) (ct+r.n) r.ep h3 (by simp)
theorem goods_append {homes E:Nat}: ∀(a b:List Rc) (ct:Nat),Goods homes E ct (a++b)↔Goods homes E ct a∧Goods homes E (endCt ct a) b
 | [],b,ct=>⟨fun h=>⟨trivial,h⟩,fun h=>h.2⟩
 | r::a,b,ct=>by
  have ih:=goods_append (homes:=homes) (E:=E) a b (ct+r.n)
  constructor
  ·rintro ⟨h1,h2,h3⟩
   obtain ⟨h4,h5⟩:=ih.1 h3
   exact ⟨⟨h1,h2,h4⟩,h5⟩
  ·rintro ⟨⟨h1,h2,h3⟩,h4⟩
   exact ⟨h1,h2,ih.2 ⟨h3,h4⟩⟩
theorem rise_ok {homes:Nat}: ∀(rs:List Rc) (ct f:Nat),Rise homes ct f rs→ ∀q∈allPcs ct rs,q.ok
 | [],_,_,_,q,h=>by cases h
 | r::rs,ct,f,⟨_,h2,h3⟩,q,h=>by
  rcases List.mem_append.1 h with h|h
  ·exact h2.ok q h
  ·exact rise_ok rs _ _ h3 q h
theorem pieceB_same {d d':Dsk} {n c:Nat} (h:d'.get (2+c %n)=d.get (2+c %n)):pieceB d' n c=pieceB d n c:=by
 unfold pieceB
 rw [h]
theorem recGo_same {d d':Dsk} {n next f:Nat}: ∀(m:Nat) (acc:List Pc),(∀c,next≤c→c<next+acc.length+m→pieceB d' n c=pieceB d n c)→recGo d' n next f m acc=recGo d n next f m acc
 | 0,_,_=>by simp [recGo]
 | m+1,acc,h=>by
  have h0:=h (next+acc.length) (by omega) (by omega)
  have ih: ∀q,recGo d' n next f m (acc++ [q])=recGo d n next f m (acc++ [q]):=fun q=>recGo_same m _ fun c h1 h2=>h c h1 (by simp at h2;omega)
  cases acc with
  | nil=>
   have ih': ∀q,recGo d' n next f m [q]=recGo d n next f m [q]:=ih
   simp only [recGo,h0,ih']
  | cons p r=>
   simp only [recGo,h0,ih]
theorem stepB_same' {d d':Dsk} {l:Lg} {f:Nat} (hL:d'.L.length=d.L.length) (ht:l.tail≤l.next) (h: ∀c,l.next≤c→c<l.tail+l.n→pieceB d' l.n c=pieceB d l.n c):stepB d l f=none→stepB d' l f=none:=by
 refine stepB_same hL ?_
 unfold Lg.recordB
 have hfr:l.free=l.n-(l.next-l.tail):=rfl
 by_cases hle:l.next≤l.tail+l.n
 ·exact recGo_same _ _ fun c h1 h2=>h c h1 (by simp at h2;omega)
 ·have:l.free=0:=by omega
  rw [this]
  simp [recGo]
def HeadIs (d:Dsk) (gen tail F:Nat):Prop:=(d.head 0=some ⟨gen,tail,F⟩∧d.get (gen %2)=sealB (headPc F ⟨gen,tail,F⟩))∨(d.head 0=none∧gen=0∧tail=0∧F=1)
theorem HeadIs.same {d d':Dsk} {gen tail F:Nat} (h:HeadIs d gen tail F) (hs: ∀i,i<2→d'.get i=d.get i):HeadIs d' gen tail F:=by
 have e:d'.head 0=d.head 0:=by
  unfold Dsk.head
  rw [hs 0 (by decide),hs (0+1) (by decide)]
 rcases h with ⟨h,h2⟩|h
 ·exact .inl ⟨by rw [e];exact h,by rw [hs _ (Nat.mod_lt _ (by decide))];exact h2⟩
 ·exact .inr ⟨by rw [e];exact h.1,h.2⟩
structure Base (d:Dsk) (l:Lg) (F:Nat) (D:List Rc):Prop where
 hd:HeadIs d l.gen l.tail F
 rise:Rise (l.homes d) l.tail F D
 slots: ∀q∈allPcs l.tail D,d.get (2+q.ct %l.n)=sealB q
 room:endCt l.tail D≤l.tail+l.n
 fle:lastF F D≤l.epoch
 stop:lastF F D=l.epoch∨stepB d (Lg.behind (log0 l.n l.epoch l.gen l.tail) D) (lastF F D)=none
 old: ∀c q,endCt l.tail D≤c→c<l.tail+l.n→pieceB d l.n c=some q→q.ep<l.epoch
structure Rg (d:Dsk) (l:Lg) (F:Nat) (D P:List Rc):Prop where
 fit:l.fit d
 dok:d.ok
 base:Base d.last l F D
 q:d.Q=ringQ l.n (allPcs (endCt l.tail D) P)
 gs:Goods (l.homes d) l.epoch (endCt l.tail D) P
 nx:l.next=endCt l.tail (D++P)
 H:l.H=applyH (fun _=>none) (D++P)
theorem homes_le {l:Lg} {d:Dsk} (h:d.ok):l.homes d≤4096:=by unfold Lg.homes;have:=h.hi;omega
theorem Rg.next {d:Dsk} {l:Lg} {F:Nat} {D P:List Rc} (h:Rg d l F D P):endCt l.tail D≤l.next∧l.next=endCt (endCt l.tail D) P∧l.tail≤endCt l.tail D:=by
 have h1:=h.nx
 rw [endCt_append] at h1
 have h2:=endCt_le P (endCt l.tail D)
 have h3:=endCt_le D l.tail
 exact ⟨by omega,h1,by omega⟩
theorem Rg.ctP {d:Dsk} {l:Lg} {F:Nat} {D P:List Rc} (h:Rg d l F D P): ∀q∈allPcs (endCt l.tail D) P,endCt l.tail D≤q.ct∧q.ct<l.next:=fun q hq=>by
 have:=allPcs_ct P _ q hq
 have h2:=h.next
 omega
theorem Rg.rest {d:Dsk} {l:Lg} {F:Nat} {D P:List Rc} (h:Rg d l F D P) {i:Nat} (hi: ∀q∈allPcs (endCt l.tail D) P,2+q.ct %l.n≠i):d.get i=d.last.get i:=by
 rw [get_last,h.q]
 refine seen_no _ _ _ fun x hx=> ?_
 obtain ⟨q,hq,rfl⟩:=List.mem_map.1 hx
 exact hi q hq
theorem Rg.restC {d:Dsk} {l:Lg} {F:Nat} {D P:List Rc} (h:Rg d l F D P) {c:Nat} (h1:l.tail≤c) (h2:c<l.tail+l.n) (h3:c<endCt l.tail D∨l.next≤c):d.get (2+c %l.n)=d.last.get (2+c %l.n):=by
 refine h.rest fun q hq e=> ?_
 have h4:=h.ctP q hq
 have h5:=h.next
 have h6:=h.fit.next
 have:=mod_inj (t:=l.tail) (by omega) (by omega) h1 h2 (show q.ct %l.n=c %l.n by omega)
 omega
theorem Rg.slot {d:Dsk} {l:Lg} {F:Nat} {D P:List Rc} (h:Rg d l F D P): ∀q∈allPcs l.tail (D++P),d.get (2+q.ct %l.n)=sealB q:=fun q hq=>by
 rw [allPcs_append] at hq
 have h5:=h.next
 have h6:=h.fit.next
 rcases List.mem_append.1 hq with hq|hq
 ·have h4:=allPcs_ct D _ q hq
  rw [h.restC h4.1 (by omega) (.inl h4.2)]
  exact h.base.slots q hq
 ·rw [get_last,h.q]
  obtain ⟨x,hx,h1,h2⟩:=seen_some (ringQ l.n (allPcs (endCt l.tail D) P)) (2+q.ct %l.n) (d.last.get (2+q.ct %l.n)) ⟨_,List.mem_map.2 ⟨q,hq,rfl⟩,rfl⟩
  obtain ⟨p,hp,rfl⟩:=List.mem_map.1 hx
  rw [h2]
  have hq2:=h.ctP q hq
  have hp2:=h.ctP p hp
  simp only at h1
  have:=mod_inj (t:=l.tail) (by omega) (by omega) (by omega) (by omega) (show p.ct %l.n=q.ct %l.n by omega)
  rw [allPcs_inj P _ p hp q hq this]
theorem Rg.rise {d:Dsk} {l:Lg} {F:Nat} {D P:List Rc} (h:Rg d l F D P):Rise (l.homes d) l.tail F (D++P):=
 (rise_append _ D P _ _).2 ⟨h.base.rise,rise_goods P _ _ h.base.fle h.gs⟩
theorem Rg.write {d d':Dsk} {l:Lg} {F:Nat} {D P:List Rc} (h:Rg d l F D P) {ps:List Pt} (ht:transB ps (l.homes d)=true) (hb: ∀p∈ps, ∀x∈p.2,x<256) {pcs:List Pc} (hc:cutB l.epoch l.next (recB ps)= .ok pcs) (hf:pcs.length≤l.free)
  (hL:d'.L=d.L) (hQ:d'.Q=d.Q++ringQ l.n pcs) (hok:d'.ok):Rg d' {l with next:=l.next+pcs.length,H:=takeH l.H ps} F D (P++ [⟨l.epoch,ps⟩]):=by
 have hpc:pcs=(⟨l.epoch,ps⟩:Rc).pcs l.next:=by
  unfold cutB at hc
  split at hc
  ·cases hc
  ·split at hc
   ·cases hc
   ·cases hc;rfl
 have hlen:pcs.length=(⟨l.epoch,ps⟩:Rc).n:=by rw [hpc,Rc.len]
 have hfr:l.free=l.n-(l.next-l.tail):=rfl
 have h1:=h.fit.tail
 have h2:=h.fit.next
 have hn:=h.next
 have hh:l.homes d'=l.homes d:=by unfold Lg.homes;rw [hL]
 have hlast:d'.last.L.length=d.last.L.length:=by show d'.L.length=d.L.length;rw [hL]
 have hlg: ∀i,d'.last.get i=d.last.get i:=fun i=>by rw [last_get,last_get,hL]
 have hfit':l.fit d':=h.fit.disk (by rw [hL])
 refine ⟨⟨hfit'.n2,hfit'.nd,hfit'.epoch,hfit'.gen,by simp only;omega,by simp only;omega,hfit'.err,takeH_ok hfit'.H (by rw [show ({l with next:=l.next+pcs.length,H:=takeH l.H ps}:Lg).homes d'=l.homes d from hh];exact ht) hb⟩,hok,?_,?_,?_,?_,?_⟩
 ·have hb:=h.base
  refine ⟨hb.hd.same fun i _=>hlg i,?_,fun q hq=>(hlg _).trans (hb.slots q hq),hb.room,hb.fle,hb.stop.imp id fun hs=>stepB_same' hlast ?_ (fun c _ _=>pieceB_same (hlg _)) hs,fun c q c1 c2 hq=>hb.old c q c1 c2 ((pieceB_same (hlg _)).symm.trans hq)⟩
  ·have:({l with next:=l.next+pcs.length,H:=takeH l.H ps}:Lg).homes d'.last=l.homes d.last:=by show d'.last.L.length-2-l.n=d.last.L.length-2-l.n;rw [hlast]
   rw [this]
   exact hb.rise
  ·show l.tail≤endCt l.tail D
   omega
 ·show d'.Q=ringQ l.n (allPcs (endCt l.tail D) (P++ [⟨l.epoch,ps⟩]))
  rw [hQ,h.q,allPcs_append, ←hn.2.1]
  unfold ringQ
  rw [List.map_append,hpc]
  show _=_++List.map _ ((⟨l.epoch,ps⟩:Rc).pcs l.next++ [])
  rw [List.append_nil]
 ·show Goods (l.homes d') l.epoch (endCt l.tail D) (P++ [⟨l.epoch,ps⟩])
  rw [hh]
  refine (goods_append P _ _).2 ⟨h.gs,rfl,⟨ht,hb,?_⟩,trivial⟩
  rw [←hn.2.1,hc,hpc]
 ·show l.next+pcs.length=endCt l.tail (D++(P++ [⟨l.epoch,ps⟩]))
  rw [←List.append_assoc,endCt_append, ←h.nx,hlen]
  rfl
 ·show takeH l.H ps=applyH (fun _=>none) (D++(P++ [⟨l.epoch,ps⟩]))
  rw [←List.append_assoc,applyH_append, ←h.H]
  rfl
theorem flush_get {d d':Dsk} (hL:d'.L=laid d.Q d.L) (hQ:d'.Q= []) {i:Nat} (hi:i<d.L.length):d'.get i=d.get i:=by
 show seenQ d'.Q i (d'.L.getD i [])=seenQ d.Q i (d.L.getD i [])
 rw [hQ,hL,laid_get _ _ _ hi]
 rfl
theorem last_of_none {d:Dsk} (hQ:d.Q= []):d.last=d:=by
 obtain ⟨L,Q,f,a,b⟩:=d
 simp only at hQ
 subst hQ
 rfl
theorem Rg.flush {d d':Dsk} {l:Lg} {F:Nat} {D P:List Rc} (h:Rg d l F D P) (hL:d'.L=laid d.Q d.L) (hQ:d'.Q= []) (hok:d'.ok):Rg d' l F (D++P) []:=by
 have hlen:d'.L.length=d.L.length:=by rw [hL,laid_len]
 have hh:l.homes d'=l.homes d:=by unfold Lg.homes;rw [hlen]
 have hn:=h.next
 have hnd:=h.fit.nd
 have hn2:=h.fit.n2
 have hlt: ∀c,2+c %l.n<d.L.length:=fun c=>by have:=Nat.mod_lt c (show 0<l.n by omega);omega
 refine ⟨h.fit.disk hlen,hok,?_,by rw [hQ];rfl,trivial,by rw [List.append_nil];exact h.nx,by rw [List.append_nil];exact h.H⟩
 rw [last_of_none hQ]
 have hb:=h.base
 have hnx:endCt l.tail (D++P)=l.next:=h.nx.symm
 refine ⟨hb.hd.same fun i hi=> ?_,by rw [hh];exact h.rise,fun q hq=> ?_,by rw [hnx];exact h.fit.next,?_,?_,fun c q c1 c2 hq=> ?_⟩
 ·rw [flush_get hL hQ (by omega)]
  exact h.rest fun q hq=>by omega
 ·rw [flush_get hL hQ (hlt _)]
  exact h.slot q hq
 ·rw [lastF_append]
  by_cases hP:P= []
  ·subst hP
   exact hb.fle
  ·rw [lastF_goods P _ _ h.gs hP]
   exact Nat.le_refl _
 ·rw [lastF_append]
  by_cases hP:P= []
  ·subst hP
   rw [List.append_nil]
   refine hb.stop.imp id fun hs=>stepB_same' (d:=d.last) (by show d'.L.length=d.last.L.length;exact hlen) (by show l.tail≤endCt l.tail D;omega) (fun c c1 c2=>pieceB_same ?_) hs
   have e:d'.get (2+c %l.n)=d.last.get (2+c %l.n):=by
    rw [flush_get hL hQ (hlt _)]
    exact h.rest fun q hq=>by cases hq
   exact e
  ·exact .inl (lastF_goods P _ _ h.gs hP)
 ·rw [hnx] at c1
  have e:pieceB d' l.n c=pieceB d.last l.n c:=pieceB_same (by
   rw [flush_get hL hQ (hlt _)]
   exact h.restC (by omega) c2 (.inr c1))
  rw [e] at hq
  exact hb.old c q (by omega) c2 hq
theorem stepB_epoch {d:Dsk} {l l':Lg} {f:Nat} (h1:l'.n=l.n) (h2:l'.tail=l.tail) (h3:l'.next=l.next):stepB d l f=none→stepB d l' f=none:=by
 intro hs
 have hr:l'.recordB d f=l.recordB d f:=by unfold Lg.recordB Lg.free;rw [h1,h2,h3]
 have hh:l'.homes d=l.homes d:=by unfold Lg.homes;rw [h1]
 unfold stepB at hs ⊢
 rw [hr,hh]
 cases hj:joinB (l.recordB d f) with
 | none=>rfl
 | some b=>
  rw [hj] at hs
  simp only at hs ⊢
  cases hd:decB b (l.homes d) with
  | none=>rfl
  | some ps=>rw [hd] at hs;cases hs
theorem headPc_ok {ep:Nat} {h:Hd} (he:ep≤16777215) (hg:h.gen≤1099511627775):(headPc ep h).ok:=⟨he,hg,by
 show (headD h.tail h.floor).length≤106
 simp [headD,pack_len,bitsN_len]⟩
theorem base_stop {d:Dsk} {l:Lg} {F:Nat} {D:List Rc} (h:Base d l F D) (hle:l.tail≤endCt l.tail D):stepB d (Lg.behind (log0 l.n l.epoch l.gen l.tail) D) (lastF F D)=none:=by
 refine h.stop.elim (fun he=> ?_) id
 refine step_old (d:=d) (d':=d) (E:=l.epoch) rfl hle (.inl he) (fun c q h1 h2 hq=>h.old c q h1 h2 hq) (fun c _ _=> .inl rfl) fun _=> .inl rfl
end Go.Proofs.YtjdbbnhnbdocbaaGreat
