import Derived.Test.YtjdbbnhnbdocbaaGreatMgGon38
import Derived.Test.YtjdbbnhnbdocbaaGreatMgGon6
namespace Go.Proofs.YtjdbbnhnbdocbaaGreat
open Go.RowKit Go.Tn Go.Tn.Bt Go.Tn.Lp Go.Tn.Dk Go.Tn.Ino Go.Tn.Dr Go.Tn.Fm Go.Tn.Names
section
variable {w w':World} {F FD G:Nat→Prop} {s g p:Nat} {l:Lg} {d:Dsk} {M:Sm} {c:Nat} {T:Nat→Bool} {H:Nat→Option (List Nat)} {err:Nat}
def Pst (w:World) (F FD:Nat→Prop) (s g p:Nat) (l:Lg) (d:Dsk) (H:Nat→Option (List Nat)) (w':World):Prop:= ∃F' FD',Fs w' F' FD' s g p (stPut l d (putsOf l d H)).1 (stPut l d (putsOf l d H)).2.1∧Mod (fun b=>F b∨FD b) w w'∧(∀b,F' b→F b∨w.heap.size≤b)∧ ∀b,FD' b→FD b∨w.heap.size≤b
def ChgR (w:World) (F FD:Nat→Prop) (s g p:Nat) (l:Lg) (d:Dsk) (no:Nat→Prop) (yes:Sm→Prop) (ret:Nat→Ending) (e:Ending) (w':World):Prop:=
 (∃c,c≠0∧no c∧e=ret c∧Below w.heap.size w w')∨
 ∃H M',ChOk (l.homes d) H 15∧(∃k b,H k=some b)∧Rep (l.homes d) (ov H (l.home d)) M'∧yes M'∧e=ret (stPut l d (putsOf l d H)).2.2∧Pst w F FD s g p l d H w'
theorem Pst.before {w0:World} (hb:Below w0.heap.size w0 w) (h:Pst w F FD s g p l d H w') (hF: ∀b,F b∨FD b→b<w0.heap.size):Pst w0 F FD s g p l d H w':=by
 obtain ⟨F',FD',h1,h2,h3,h4⟩:=h
 exact ⟨F',FD',h1,(modB hb).trans h2 (fun _ h=>h.elim) fun _ _ h=>h,fun b hb'=>(h3 b hb').imp id fun h=>Nat.le_trans hb.size h,fun b hb'=>(h4 b hb').imp id fun h=>Nat.le_trans hb.size h⟩
set_option maxRecDepth 20000 in
theorem fcommit_bad {n:Nat} (hC:ChAt w G c s n T H err) (he:err≠0):Calls Tryz.prog 79 #[.pointer (some ⟨c,0,none⟩)] w fun e w'=>e= .returned (.int .i64 (err:Nat))∧w'=w:=by
 obtain ⟨m,mm,L,clk,k1, -⟩:=hC.ex
 have p3:=cell_of (o:=3) k1 rfl
 have hz:((err:Int) !=0)=true:=by simp;omega
 clear hC k1 he
 go_enter Tryz.func79,Tryz.ntmps79
 go_wp2
 go_ret
 exact ⟨rfl,rfl⟩
theorem fcommitR {w0:World} (h:SAt w0 F FD s g p l d M) (hm0:Mod G w0 w) (hG: ∀b,G b→w0.heap.size≤b) (hC:ChAt w G c s (l.homes d) T H 0) (hck:ChOk (l.homes d) H 14) (hQ:d.Q.length≤999900000) (hchk:(l.check d).2.2=0→(l.check d).1.ok (l.check d).2.1):
  Calls Tryz.prog 79 #[.pointer (some ⟨c,0,none⟩)] w fun e w'=>FPostG w F FD G s g p (stPut l d (putsOf l d (putH H 1 (mapSec T)))) e w':=by
 have hlt: ∀b,F b∨FD b→b<w0.heap.size:=fun b hb=>hb.elim (h.fs.log.lt b) (h.fs.disk.lt b)
 have hs:=lt_of_block h.fs.blk
 have hb0:Below w0.heap.size w0 w:=hm0.below (Nat.le_refl _) fun x hx hg=>absurd hx (Nat.not_lt.2 (hG x hg))
 have hck2:=hck.put (k:=1) (b:=mapSec T) (by have:=h.rep.n1;omega) (mapSec_sec T)
 have hokH:({l with H:=putH H 1 (mapSec T)}:Lg).ok d:=⟨h.ok.n2,h.ok.nd,h.ok.epoch,h.ok.gen,h.ok.tail,h.ok.next,h.ok.small,h.ok.err,fun k b hb=>hck2.ok k b hb⟩
 exact fcommit_any (h.fs.below hb0) hC (fun b hb hg=>absurd (hlt b hb) (Nat.not_lt.2 (hG b hg))) (fun hg=>absurd hs (Nat.not_lt.2 (hG s hg))) h.ok hokH hQ fun _=>hchk
theorem Pst.of_post {w0 w2:World} {S:Nat→Prop} {e:Ending} (h:SAt w0 F FD s g p l d M) (hm0:Mod G w0 w) (hG: ∀b,G b→w0.heap.size≤b) (hp:FPostG w F FD G s g p (stPut l d (putsOf l d H)) e w') (hm:Mod S w' w2) (hS: ∀r,S r→w0.heap.size≤r∧r<w.heap.size):Pst w0 F FD s g p l d H w2:=by
 obtain ⟨-,F',FD',h1,h2,h3,h4⟩:=hp
 have hlt: ∀b,F b∨FD b→b<w0.heap.size:=fun b hb=>hb.elim (h.fs.log.lt b) (h.fs.disk.lt b)
 have hs:=lt_of_block h.fs.blk
 have z:=hm0.size
 refine ⟨F',FD',h1.mod hm (fun b hb hSb=> ?_) (fun b hb hSb=> ?_) (fun hSs=>absurd hs (Nat.not_lt.2 (hS s hSs).1)),((hm0.mono (T:=fun b=>F b∨FD b) fun x hx hg=>absurd hx (Nat.not_lt.2 (hG x hg))).trans h2 (fun _ h=>h) fun x hx h=>h.elim id fun hg=>absurd hx (Nat.not_lt.2 (hG x hg))).trans hm (fun _ h=>h) fun x hx hSx=>absurd hx (Nat.not_lt.2 (hS x hSx).1),fun b hb=>(h3 b hb).imp id fun h=>Nat.le_trans z h,fun b hb=>(h4 b hb).imp id fun h=>Nat.le_trans z h⟩
 ·have:=hS b hSb
  rcases h3 b hb with h5|h5
  ·have:=hlt b (.inl h5);omega
  ·omega
 ·have:=hS b hSb
  rcases h4 b hb with h5|h5
  ·have:=hlt b (.inr h5);omega
  ·omega
end
section
variable {n m:Nat} {T T':Nat→Bool} {H H':Nat→Option (List Nat)} {V:Nat→List Nat} {P:Nat→List Nat} {N:Nat→Nd} {M:Sm} {j i err':Nat} {bl':List Nat} {L:List Ent}
theorem rep_T (h:Rep n V M):mapT (V 1)=takenP M.P:=by
 funext i
 by_cases hi:i<1024
 ·exact h.taken.2 i hi
 ·have h2:takenP M.P i=false:=by
   cases hc:takenP M.P i with
   | false=>rfl
   | true=>
    rcases takenP_iff.1 hc with h1|⟨j, -,h2⟩
    ·omega
    ·have:=(h.mid.lo j i h2 (by omega)).2
     have:=h.n2
     omega
  rw [h2]
  unfold mapT Al.homesOf
  rw [decide_eq_false hi,Bool.false_and]
theorem dirB_secs (L:List Ent): ∀b∈dirB L,secB b:=fun _ hb=>dirB_sec hb
theorem dir_mid (hm:Mid n T (ov H V) P fun j k=>(N j).blk k) (hc:ChOk n H m) (hj:1≤j∧j<41) (hk:(N j).kind=1) (h24:L.length≤24) (v:Nat) (hs:SetTo n T H 0 (P j) (dirB L) 8 T' H' err' bl'):
  (err'=0∧Mid n T' (ov H' V) (Fm.upd P j bl') (fun i k=>((Fm.upd N j {N j with L:=L,ver:=v}) i).blk k)∧ChOk n H' (m+5)∧ ∀k,k<42→H' k=H k)∨err'=8∧Stuck n (fun j k=>(N j).blk k) j (dirB L):=by
 rcases hs.mid hm hc hj (dirB_secs L) with ⟨h1,h2,h3,h4⟩|h1
 ·refine .inl ⟨h1,h2.congr fun i k hk8=> ?_,h3.mono (by rw [dirB_len];omega),h4⟩
  by_cases hi:i=j
  ·rw [hi,Fm.upd_at,Fm.upd_at]
   unfold firstW Nd.blk
   rw [if_pos hk8,if_pos hk]
  ·rw [Fm.upd_ne _ _ hi,Fm.upd_ne _ _ hi]
 ·exact .inr h1
theorem Rep.zero (h:Rep n V M) (hk:(M.N i).kind=0):M.P i=List.replicate 8 0:=by
 apply List.ext_getElem?
 intro k
 by_cases hk8:k<8
 ·obtain ⟨q,hq⟩: ∃q,(M.P i)[k]?=some q:=⟨_,List.getElem?_eq_getElem (by rw [h.mid.len];exact hk8)⟩
  have h0:q=0:=by
   apply Classical.byContradiction
   intro hn
   exact (h.mid.has i k q hq).1 hn (blk_none (h.nd i) hk k)
  rw [hq,h0,List.getElem?_replicate,if_pos hk8]
 ·rw [List.getElem?_eq_none (by rw [h.mid.len];omega),List.getElem?_eq_none (by simp;omega)]
def Nd.new (kind gen:Nat):Nd:=⟨kind,gen,1, [],List.replicate 8 emp⟩
theorem new_blk (kind gen k:Nat):(Nd.new kind gen).blk k=none:=by
 unfold Nd.blk Nd.new
 simp only
 split
 ·exact List.getElem?_eq_none (by rw [dirB_len];simp)
 ·split
  ·rw [if_pos]
   rw [List.getElem?_replicate]
   split<;>rfl
  ·rfl
theorem new_ok {kind gen:Nat} (hk:kind=1∨kind=2) (hg:gen≤2147483647):NdOk (Nd.new kind gen):=by
 refine ⟨hg,by show 1≤_;decide,by simp [Nd.new],?_⟩
 have hD: ∀t∈(Nd.new kind gen).D,t=emp:=fun t ht=>List.eq_of_mem_replicate ht
 rcases hk with rfl|rfl
 ·exact .inr (.inl ⟨rfl,fun e he=>(by cases he), .nil,Nat.zero_le _,hD⟩)
 ·exact .inr (.inr ⟨rfl,rfl,fun t ht=>by rw [hD t ht];decide⟩)
theorem dir_ok {x:Nd} (h:NdOk x) (hk:x.kind=1) (hL: ∀e∈L,Ent.ok e) (hr:Dr.Rise L) (h24:L.length≤24) (hv:x.ver<1099511627775):NdOk {x with L:=L,ver:=x.ver+1}:=by
 refine ⟨h.gen,by show x.ver+1≤_;omega,h.dl, .inr (.inl ⟨hk,hL,hr,h24,?_⟩)⟩
 rcases h.knd with h1|h1|h1
 ·omega
 ·exact h1.2.2.2.2
 ·omega
theorem putH_at (H:Nat→Option (List Nat)) (k:Nat) (b:List Nat):putH H k b k=some b:=if_pos rfl
theorem putH_ne (H:Nat→Option (List Nat)) {j k:Nat} (b:List Nat) (h:j≠k):putH H k b j=H j:=if_neg h
theorem ino_secB {x:Ino} (h:x.bl.length=8):secB x.sec:=⟨sector_len (by rw [Ino.bits_len h];decide),sector_lt _⟩
theorem create_rep (h:Rep n V M) (hj:1≤j∧j<41) (hkj:(M.N j).kind=1) (hi:1≤i∧i<41) (hm:M.may i) {kind:Nat} (hkd:kind=1∨kind=2) (hL: ∀e∈L,Ent.ok e) (hr:Dr.Rise L) (h24:L.length≤24) (hv:(M.N j).ver<1099511627775)
  (hs:SetTo n (takenP M.P) (fun _=>none) 0 (M.P j) (dirB L) 8 T' H' err' bl'):
  (err'=0∧ ∃M':Sm,M'.N=Fm.upd (Fm.upd M.N j {M.N j with L:=L,ver:=(M.N j).ver+1}) i (Nd.new kind ((M.N i).gen+1))∧M'.rcd=M.rcd∧
   Rep n (ov (putH (putH (putH H' (1+j) (Ino.sec ⟨1,(M.N j).gen,(M.N j).ver+1,bl'⟩)) (1+i) (Ino.sec ⟨kind,(M.N i).gen+1,1,List.replicate 8 0⟩)) 1 (mapSec T')) V) M'∧
   ChOk n (putH (putH H' (1+j) (Ino.sec ⟨1,(M.N j).gen,(M.N j).ver+1,bl'⟩)) (1+i) (Ino.sec ⟨kind,(M.N i).gen+1,1,List.replicate 8 0⟩)) 14)∨err'=8∧Stuck n M.W j (dirB L):=by
 have hij:i≠j:=fun e=>by
  rw [e] at hm
  have:=hm.1
  omega
 have hmid0:Mid n (takenP M.P) (ov (fun _=>none) V) M.P fun j k=>(M.N j).blk k:=h.mid
 have hn46:=h.n1
 rcases dir_mid hmid0 (ChOk.none n) hj hkj h24 ((M.N j).ver+1) hs with ⟨h1,h2,h3,h4⟩|h1
 ·refine .inl ⟨h1,⟨Fm.upd (Fm.upd M.N j {M.N j with L:=L,ver:=(M.N j).ver+1}) i (Nd.new kind ((M.N i).gen+1)),Fm.upd M.P j bl',M.rcd⟩,rfl,rfl,?_,?_⟩
  ·refine h.turn (T:=T') (N':=Fm.upd (Fm.upd M.N j {M.N j with L:=L,ver:=(M.N j).ver+1}) i (Nd.new kind ((M.N i).gen+1))) (P':=Fm.upd M.P j bl') ?_ ?_ ?_ ?_
   ·refine (h2.view (V':=ov (putH (putH H' (1+j) _) (1+i) _) V) fun p hp _=> ?_).congr fun a k hk8=> ?_
    ·rw [ov_put,Fm.upd_ne _ _ (by omega),ov_put,Fm.upd_ne _ _ (by omega)]
    ·by_cases ha:a=i
     ·rw [ha,Fm.upd_at,new_blk,Fm.upd_ne _ _ hij,blk_none (h.nd i) hm.1]
     ·rw [Fm.upd_ne _ _ ha]
   ·intro a
    by_cases ha:a=i
    ·rw [ha,Fm.upd_at]
     exact new_ok hkd (by have:=hm.2;omega)
    ·rw [Fm.upd_ne _ _ ha]
     by_cases hb:a=j
     ·rw [hb,Fm.upd_at]
      exact dir_ok (h.nd j) hkj hL hr h24 hv
     ·rw [Fm.upd_ne _ _ hb]
      exact h.nd a
   ·unfold putH
    rw [if_neg (by omega),if_neg (by omega),h4 0 (by decide)]
   ·intro a h1a h2a
    by_cases ha:a=i
    ·refine .inl ?_
     rw [ha]
     rw [putH_at]
     unfold Sm.ino
     simp only [Fm.upd_at,Fm.upd_ne _ _ hij,h.zero hm.1,Nd.new]
    ·by_cases hb:a=j
     ·refine .inl ?_
      rw [hb]
      rw [putH_ne _ _ (by omega),putH_at]
      unfold Sm.ino
      simp only [Fm.upd_ne _ _ hij.symm,Fm.upd_at,hkj]
     ·refine .inr ⟨?_,?_,?_⟩
      ·unfold putH
       rw [if_neg (by omega),if_neg (by omega),h4 _ (by omega)]
      ·rw [Fm.upd_ne _ _ ha,Fm.upd_ne _ _ hb]
      ·rw [Fm.upd_ne _ _ hb]
  ·exact ((h3.put (by omega) (ino_secB (hs.len.trans (h.mid.len j)))).put (by omega) (ino_secB rfl)).mono (by omega)
 ·exact .inr h1
end
section
variable {w w':World} {F FD:Nat→Prop} {s g p:Nat} {l:Lg} {d:Dsk} {M:Sm}
def FreshAt (M:Sm) (i:Nat):Prop:=1≤i∧i<41∧M.may i∧ ∀k,1≤k→k<i→¬ M.may k
inductive CreateNo (M:Sm) (n:Nat) (f:Int×Int) (t:ByteArray) (kind:Int):Nat→Prop
 | name:isName (bs t)=false→CreateNo M n f t kind 9
 | kind:isName (bs t)=true→kind≠1→kind≠2→CreateNo M n f t kind 2
 | of:isName (bs t)=true→(kind=1∨kind=2)→(M.of f 1).2≠0→CreateNo M n f t kind (M.of f 1).2
 | there (y:Ent):isName (bs t)=true→(kind=1∨kind=2)→(M.of f 1).2=0→y∈(M.N (M.of f 1).1).L→y.name=t→CreateNo M n f t kind 10
 | many:isName (bs t)=true→(kind=1∨kind=2)→(M.of f 1).2=0→(∀y∈(M.N (M.of f 1).1).L,y.name≠t)→24≤(M.N (M.of f 1).1).L.length→CreateNo M n f t kind 8
 | none:isName (bs t)=true→(kind=1∨kind=2)→(M.of f 1).2=0→(∀y∈(M.N (M.of f 1).1).L,y.name≠t)→(∀k,1≤k→k<41→¬ M.may k)→CreateNo M n f t kind 8
 | full (i:Nat) (R:List Ent):isName (bs t)=true→(kind=1∨kind=2)→(M.of f 1).2=0→(∀y∈(M.N (M.of f 1).1).L,y.name≠t)→(M.N (M.of f 1).1).L.length<24→FreshAt M i→PutsE (M.N (M.of f 1).1).L ⟨t,i,(M.N i).gen+1,kind.toNat⟩ R→Stuck n M.W (M.of f 1).1 (dirB R)→CreateNo M n f t kind 8
structure CreateYes (M:Sm) (f:Int×Int) (t:ByteArray) (kind:Int) (i gn:Nat) (M':Sm):Prop where
 name:isName (bs t)=true
 knd:kind=1∨kind=2
 of:(M.of f 1).2=0
 new: ∀y∈(M.N (M.of f 1).1).L,y.name≠t
 less:(M.N (M.of f 1).1).L.length<24
 fresh:FreshAt M i
 gen:gn=(M.N i).gen+1
 N: ∃R,PutsE (M.N (M.of f 1).1).L ⟨t,i,gn,kind.toNat⟩ R∧M'.N=Fm.upd (Fm.upd M.N (M.of f 1).1 {M.N (M.of f 1).1 with L:=R,ver:=(M.N (M.of f 1).1).ver+1}) i (Nd.new kind.toNat gn)
 rcd:M'.rcd=M.rcd
def retC (i gn c:Nat):Ending:=if c=0 then .returned (.tuple #[.agg (flC i gn), .int .i64 0]) else .returned (.tuple #[.agg (flC 0 0), .int .i64 (c:Nat)])
theorem retC_no {i gn c:Nat} (h:c≠0):retC i gn c= .returned (.tuple #[.agg (flC 0 0), .int .i64 (c:Nat)]):=if_neg h
theorem built_entry (t:ByteArray) (i g k:Nat):Tryz.prog.built 64 [(0, .string t),(1, .agg (flC i g)),(2, .int .i64 (k:Nat))]=some (entC ⟨t,i,g,k⟩):=by kernel_rfl
theorem built_new (k g:Nat):Tryz.prog.built 52 [(0, .int .i64 (k:Nat)),(1, .int .i64 (g:Nat)),(2, .int .u64 1)]=some (inoC ⟨k,g,1,List.replicate 8 0⟩):=by kernel_rfl
theorem mod_of_new {w w':World} {G:Nat→Prop} (hb:Below w.heap.size w w'):Mod G w w':=(modB hb).mono fun _ _ h=>h.elim
set_option maxRecDepth 20000 in
set_option maxHeartbeats 8000000 in
theorem fcreate_any (h:SAt w F FD s g p l d M) (hQ:d.Q.length≤999900000) (hchk:(l.check d).2.2=0→(l.check d).1.ok (l.check d).2.1) (hv: ∀j,(M.N j).ver<1099511627775) (f:Int×Int) (t:ByteArray) (kind:Int):
  Calls Tryz.prog 33 #[.pointer (some ⟨s,0,none⟩), .agg #[.int .i64 f.1, .int .i64 f.2], .string t, .int .i64 kind] w
  fun e w'=> ∃i gn,ChgR w F FD s g p l d (CreateNo M (l.homes d) f t kind) (CreateYes M f t kind i gn) (retC i gn) e w':=by
 obtain ⟨w1,hw1⟩: ∃w1,w.alloc (.cells #[.int .i64 f.1, .int .i64 f.2] 33)=w1:=⟨_,rfl⟩
 have hb1:Below w.heap.size w w1:=by rw [←hw1];exact (Below.refl _ _).alloc (Nat.le_refl _) _
 have hX1:w1.heap[w.heap.size]?=some (.cells #[.int .i64 f.1, .int .i64 f.2] 33 (0,0)):=by rw [←hw1];exact heap_alloc_at
 have hz1:w1.heap.size=w.heap.size+1:=by rw [←hw1];simp
 obtain ⟨w2,hw2⟩: ∃w2,w1.alloc (.cells #[.int .i64 0, .int .i64 0] 33)=w2:=⟨_,rfl⟩
 have hb2:Below w1.heap.size w1 w2:=by rw [←hw2];exact (Below.refl _ _).alloc (Nat.le_refl _) _
 have hX2:w2.heap[w1.heap.size]?=some (.cells #[.int .i64 0, .int .i64 0] 33 (0,0)):=by rw [←hw2];exact heap_alloc_at
 have hs2:w2.heap.size=w.heap.size+2:=by rw [←hw2];simp [hz1]
 have hb12:=hb1.trans (hb2.mono hb1.size)
 have hF2:w2.heap[w.heap.size]?=some (.cells #[.int .i64 f.1, .int .i64 f.2] 33 (0,0)):=(hb2.block _ (lt_of_block hX1)).trans hX1
 have h2:=h.below hb12
 have hagf:=aggFl f.1 f.2
 have hokc:=fsok_any h2.fs
 have hag0:AggT Tryz.prog 33 (#[.int .i64 0, .int .i64 0]:Array Value).size:=aggFl 0 0
 have hone0:(#[.int .i64 0, .int .i64 0]:Array Value).all (·.oneCell')=true:=oneF2 0 0
 have hck:=ncheck_any w2 t
 have HB:=Lib.hid hb12
 have HX2:=Lib.hid hX2
 have HZ1:=Lib.hid hz1
 have HZ:=Lib.hid hs2
 have HH:=Lib.hid h
 have H2:=Lib.hid h2
 have HF2:=Lib.hid hF2
 have HQ:=Lib.hid hQ
 have HCHK:=Lib.hid hchk
 have HV:=Lib.hid hv
 clear h hb1 hX1 hb2 hX2 hb12 hF2 h2 hz1 hs2 hQ hchk hv
 go_enter Tryz.func33,Tryz.ntmps33
 go_upto_region 1 with fail
 simp only [hw1,hw2] at*
 clear hw1 hw2
 go_upto_region 4 with (first
  | (go_at_call 71;refine hokc.mono ?_;rintro e wt ⟨rfl,hw⟩;obtain rfl:=hw.symm;clear hw)
  | (go_at_call 72;refine hck.mono ?_;rintro e w3 ⟨rfl,hb3⟩;have HB3a:=Lib.hid hb3;clear hb3 hck)
  | fail)
 have hb3:=HB3a.out
 clear hokc
 have hres3:=(hb3.block _ (lt_of_block HX2.out)).trans HX2.out
 have hF3:=(hb3.block _ (lt_of_block HF2.out)).trans HF2.out
 have H3:=Lib.hid (H2.out.below hb3)
 have HRES3:=Lib.hid hres3
 have HF3:=Lib.hid hF3
 have HB3:=Lib.hid (HB.out.trans (hb3.mono HB.out.size))
 clear hb3 hF3
 cases hn:isName (bs t) with
 | false=>
  rw [errOf_no hn]
  go_wp2_with (first
   | ((with_reducible refine wpList_storeB hag0 ?_ ?_ hres3 rfl hone0 ?_);rfl;rfl;(intro w9 hh9 hm9;have HH9:=Lib.hid hh9;have HM9:=Lib.hid hm9;clear hh9 hm9);go_frame)
   | fail)
  refine bodyPost_ret (results_cellT rfl _ rfl hag0 (lies_of HH9.out)) rfl ?_
  exact ⟨0,0, .inl ⟨9,by decide, .name hn,rfl,HB3.out.trans (HM9.out.below HB3.out.size fun y hy e=>by have h1:=HZ1.out;omega)⟩⟩
 | true=>
  rw [errOf_yes hn]
  have HN:=Lib.hid hn
  clear hn
  by_cases hkd:kind=1∨kind=2
  ·obtain ⟨kd,rfl⟩: ∃kd:Nat,kind=(kd:Nat):=⟨kind.toNat,by omega⟩
   have hkd':kd=1∨kd=2:=by omega
   have HKD:=Lib.hid hkd
   have HKD':=Lib.hid hkd'
   have hfi:=ffind_any H3.out f t
   have hLF3:Lies w3 w.heap.size 0 #[.int .i64 f.1, .int .i64 f.2]:=lies_of HF3.out
   clear hkd hres3
   go_upto_region 6 with fail
   go_cut [32] (fun b wx=>b= .bool false∧wx=w3)
   case first=>
    rcases hkd' with rfl|rfl
    ·go_wp2
     go_meet
     case rel=>exact ⟨rfl,rfl⟩
    ·go_wp2
     go_meet
     case rel=>exact ⟨rfl,rfl⟩
   case rest=>
    obtain ⟨rfl,hw⟩:=hcut
    obtain rfl:=hw.symm
    clear hw hkd'
    go_wp2_with (first
     | ((with_reducible refine wpList_loadA hagf hLF3 ?_ ?_);rfl;go_frame)
     | fail)
    refine hfi.mono ?_
    rintro e w4 ⟨⟨v,x,c,rfl,hO,hC⟩,hb4⟩
    obtain ⟨av,cv,hvv, -, -, -⟩:=id (hO.sl elEn.len)
    subst hvv
    have HO:=Lib.hid hO
    have hagx:=aggEn x
    have honex:=oneEn x
    have hb4':=HB3.out.trans (hb4.mono HB3.out.size)
    obtain ⟨w5,hw5⟩: ∃w5,w4.alloc (.cells (entC x) 64)=w5:=⟨_,rfl⟩
    have hb5:Below w4.heap.size w4 w5:=by rw [←hw5];exact (Below.refl _ _).alloc (Nat.le_refl _) _
    have hb35:=hb4.trans (hb5.mono hb4.size)
    have hres5:=(hb35.block _ (lt_of_block HRES3.out)).trans HRES3.out
    have HB5:=Lib.hid (hb4'.trans (hb5.mono hb4'.size))
    have H5:=Lib.hid (H3.out.below hb35)
    have HF5:=Lib.hid ((hb35.block _ (lt_of_block HF3.out)).trans HF3.out)
    have HO5:=Lib.hid (hO.below hb5)
    have HRES5:=Lib.hid hres5
    clear hfi hO hb4 hb4' hb5 hb35 hLF3
    go_upto_region 9 with (first
     | ((with_reducible refine wpList_storeA_new hagx ?_ honex ?_ ?_ ?_);rfl;rfl;rfl;go_frame)
     | fail)
    simp only [hw5] at*
    clear hw5
    rcases hC with ⟨h0,rfl,rfl⟩|⟨h0,hC⟩
    ·have H0:=Lib.hid h0
     obtain ⟨cc,hcc⟩: ∃cc,(M.of f 1).2=cc:=⟨_,rfl⟩
     have hc11:cc≠11:=by
      have:=of_codes (M:=M) f 1
      omega
     have hc0:cc≠0:=by rw [←hcc];exact h0
     have e0:((cc:Int)==0)=false:=by simp;omega
     have e1:((cc:Int) !=11)=true:=by simp;omega
     rw [hcc] at HO HO5 ⊢
     have HCC:=Lib.hid hcc
     have HC0:=Lib.hid hc0
     clear h0 hcc hc11 hc0
     go_wp2_with (first
      | ((with_reducible refine wpList_storeB hag0 ?_ ?_ hres5 rfl hone0 ?_);rfl;rfl;(intro w9 hh9 hm9;have HH9:=Lib.hid hh9;have HM9:=Lib.hid hm9;clear hh9 hm9);go_frame)
      | fail)
     refine bodyPost_ret (results_cellT rfl _ rfl hag0 (lies_of HH9.out)) rfl ?_
     exact ⟨0,0, .inl ⟨cc,HC0.out,HCC.out ▸ .of HN.out HKD.out H0.out,(retC_no HC0.out).symm,HB5.out.trans (HM9.out.below HB5.out.size fun y hy e=>by have h1:=HZ1.out;omega)⟩⟩
    ·have H0:=Lib.hid h0
     rw [if_pos h0] at HO HO5 ⊢
     clear h0
     rcases hC with ⟨rfl,hx,hxn⟩|⟨rfl,rfl,hno⟩
     ·have HXM:=Lib.hid (And.intro hx hxn)
      clear hx hxn
      go_wp2_with (first
       | ((with_reducible refine wpList_storeB hag0 ?_ ?_ hres5 rfl hone0 ?_);rfl;rfl;(intro w9 hh9 hm9;have HH9:=Lib.hid hh9;have HM9:=Lib.hid hm9;clear hh9 hm9);go_frame)
       | fail)
      refine bodyPost_ret (results_cellT rfl _ rfl hag0 (lies_of HH9.out)) rfl ?_
      exact ⟨0,0, .inl ⟨10,by decide, .there x HN.out HKD.out H0.out HXM.out.1 HXM.out.2,rfl,HB5.out.trans (HM9.out.below HB5.out.size fun y hy e=>by have h1:=HZ1.out;omega)⟩⟩
     ·have HNO:=Lib.hid hno
      obtain ⟨nl,hnl⟩: ∃nl,(M.N (M.of f 1).1).L.length=nl:=⟨_,rfl⟩
      rw [hnl] at HO HO5 ⊢
      have HNL:=Lib.hid hnl
      clear hno hnl
      by_cases h24:24≤nl
      ·have hd24:decide ((24:Int)≤(nl:Int))=true:=decide_eq_true (by omega)
       have H24:=Lib.hid h24
       clear h24
       go_wp2_with (first
        | ((with_reducible refine wpList_storeB hag0 ?_ ?_ hres5 rfl hone0 ?_);rfl;rfl;(intro w9 hh9 hm9;have HH9:=Lib.hid hh9;have HM9:=Lib.hid hm9;clear hh9 hm9);go_frame)
        | fail)
       refine bodyPost_ret (results_cellT rfl _ rfl hag0 (lies_of HH9.out)) rfl ?_
       exact ⟨0,0, .inl ⟨8,by decide, .many HN.out HKD.out H0.out HNO.out (by rw [HNL.out];exact H24.out),rfl,HB5.out.trans (HM9.out.below HB5.out.size fun y hy e=>by have h1:=HZ1.out;omega)⟩⟩
      ·have hd24:decide ((24:Int)≤(nl:Int))=false:=decide_eq_false (by omega)
       have H24:=Lib.hid h24
       have hfr:=ffresh_any H5.out
       clear h24
       go_wp2_with fail
       refine hfr.mono ?_
       rintro e w6 ⟨⟨i,gn,c6,rfl,hFr⟩,hb6⟩
       have hagi:AggT Tryz.prog 33 (flC i gn).size:=aggFl i gn
       have honei:(flC i gn).all (·.oneCell')=true:=oneF2 i gn
       obtain ⟨w7,hw7⟩: ∃w7,w6.alloc (.cells (flC i gn) 33)=w7:=⟨_,rfl⟩
       have hb7:Below w6.heap.size w6 w7:=by rw [←hw7];exact (Below.refl _ _).alloc (Nat.le_refl _) _
       have hX7:w7.heap[w6.heap.size]?=some (.cells (flC i gn) 33 (0,0)):=by rw [←hw7];exact heap_alloc_at
       have hz7:w7.heap.size=w6.heap.size+1:=by rw [←hw7];simp
       have hb57:=hb6.trans (hb7.mono hb6.size)
       have hres7:=(hb57.block _ (lt_of_block HRES5.out)).trans HRES5.out
       have HB7:=Lib.hid (HB5.out.trans (hb57.mono HB5.out.size))
       have H7:=Lib.hid (H5.out.below hb57)
       have HF7:=Lib.hid ((hb57.block _ (lt_of_block HF5.out)).trans HF5.out)
       have HO7:=Lib.hid (HO5.out.below hb57)
       have HX7:=Lib.hid hX7
       have HRES7:=Lib.hid hres7
       have hx6:w.heap.size<w6.heap.size:=by have h1:=HB5.out.size;have h2:=HZ.out;have h3:=hb6.size;have h4:=lt_of_block HRES5.out;have h5:=HZ1.out;omega
       have HX6:=Lib.hid hx6
       have HZ7:=Lib.hid hz7
       clear hfr hb6 hb7 hX7 hb57 hres5 hx6 hz7
       go_upto_region 16 with (first
        | ((with_reducible refine wpList_storeA_new hagi ?_ honei ?_ ?_ ?_);rfl;rfl;rfl;go_frame)
        | fail)
       simp only [hw7] at*
       clear hw7
       rcases hFr with ⟨i',hi1,hi41,hmay,hleast,hii,hgg,rfl⟩|⟨hnone,rfl,rfl,rfl⟩
       ·obtain rfl:=hii
        have hgn:(M.N i).gen+1=gn:=hgg.symm
        clear hgg
        obtain ⟨j,hj⟩: ∃j,(M.of f 1).1=j:=⟨_,rfl⟩
        have HFA:Hid (FreshAt M i):=Lib.hid ⟨hi1,hi41,hmay,hleast⟩
        have hgl:gn≤2147483647:=by have:=hmay.2;omega
        have hof:=of_0 H0.out
        rw [hj] at hof
        have hjb:=there_some hof.1
        have HOF:=Lib.hid hof
        have HJ:=Lib.hid hj
        have HGN:=Lib.hid hgn
        have hLx: ∀e∈(M.N j).L,Ent.ok e:=fun e he=>by
         rcases (HH.out.rep.nd j).knd with hk|hk|hk
         ·rw [hk.2.2.1] at he;cases he
         ·exact hk.2.1 e he
         ·rw [hk.2.1] at he;cases he
        have hRx:Dr.Rise (M.N j).L:=by
         rcases (HH.out.rep.nd j).knd with hk|hk|hk
         ·rw [hk.2.2.1];exact .nil
         ·exact hk.2.2.1
         ·rw [hk.2.1];exact .nil
        have HLX:=Lib.hid hLx
        have HRX:=Lib.hid hRx
        have HJB:=Lib.hid (And.intro hjb.1 hjb.2.1)
        have hI41:=hi41
        have HMAY:=Lib.hid hmay
        have hn46:=HH.out.rep.n1
        have hn1024:=HH.out.rep.n2
        have hch:=fchange_any H7.out.fs H7.out.ok (by omega) hn1024 HH.out.rep.taken.1
        rw [rep_T HH.out.rep] at hch
        rw [hj] at HO7 HNL HNO
        clear hi1 hmay hleast hgn hof hjb hLx hRx hj hi41 hres7
        go_wp2_with fail
        refine hch.mono ?_
        rintro e w8 ⟨cc,G,rfl,hC8,hb8,hG8⟩
        have hF8:=(hb8.block _ (lt_of_block HF7.out)).trans HF7.out
        have hX8:=(hb8.block _ (lt_of_block HX7.out)).trans HX7.out
        have hR8:=(hb8.block _ (lt_of_block HRES7.out)).trans HRES7.out
        have H8:=Lib.hid (H7.out.below hb8)
        have HC8:=Lib.hid hC8
        have HG8:=Lib.hid hG8
        have HB8:=Lib.hid (HB7.out.trans (hb8.mono HB7.out.size))
        have HO8:=Lib.hid (HO7.out.below hb8)
        have HR8:=Lib.hid hR8
        have hz78:=hb8.size
        have HZ78:=Lib.hid hz78
        have hS:w8.drew.heap[w.heap.size]?=some (.cells #[.int .i64 f.1, .int .i64 f.2] 33 (0,0))∧w8.drew.heap[w6.heap.size]?=some (.cells (flC i gn) 33 (0,0)):=⟨hF8,hX8⟩
        clear hch hC8 hb8 hG8 hF8 hX8 hR8 hz78
        go_upto_region 19 with fail
        refine wp_region_x (fun w'=>w'.heap[w.heap.size]?=some (.cells #[.int .i64 f.1, .int .i64 f.2] 33 (0,0))∧w'.heap[w6.heap.size]?=some (.cells (flC i gn) 33 (0,0))) [(0,1),(1,0),(2,1),(3,1),(4,0),(5,1),(6,1),(7,2),(8,2)] (by kernel_rfl) (by kernel_rfl) (by intro d v c a w h;cases d<;>exact h) ?_
        iterate 1 (refine x_take rfl (fun K hK=> ?_);go_simp;refine hK _ ?_;clear hK K)
        refine x_read rfl hS (fun w' h=>exec_loadA hagf rfl (lies_of h.1)) ?_
        iterate 2 (refine x_take rfl (fun K hK=> ?_);go_simp;refine hK _ ?_;clear hK K)
        refine x_read rfl hS (fun w' h=>exec_loadA hagi rfl (lies_of h.2)) ?_
        iterate 1 (refine x_take rfl (fun K hK=> ?_);go_simp;refine hK _ ?_;clear hK K)
        refine x_take rfl (fun K hK=>⟨_,fun w=>exec_buildA (vals:= [(0, .string t),(1, .agg (flC i gn)),(2, .int .i64 (kd:Nat))]) rfl (built_entry t i gn kd),?_⟩)
        refine hK _ ?_
        clear hK K
        refine x_show' rfl (fun K hK=> ?_)
        go_simp
        have hL8:LSl enEn 4 w8.drew (.slice av nl cv) (M.N j).L:=by
         have h1:=(HO8.out.sl elEn.len).below (Below.refl _ w8).drew
         exact h1
        refine (eputE_any w8.drew (.slice av nl cv) (M.N j).L hL8 HRX.out (by have:=H24.out;rw [HNL.out];omega) ⟨t,i,gn,kd⟩).mono ?_
        rintro e w9 ⟨v9,R,rfl,hO9,hPR,hb9⟩
        have hb89:Below w8.heap.size w8 w9:=(Below.refl _ w8).drew.trans hb9
        have hS9:=And.intro ((hb89.block _ (lt_of_block hS.1)).trans hS.1) ((hb89.block _ (lt_of_block hS.2)).trans hS.2)
        obtain ⟨a9,n9,c9,rfl⟩:=hO9.shape
        refine hK _ _ hS9 ?_
        clear hK K hS hL8
        refine x_show' rfl (fun K hK=> ?_)
        go_simp
        have hRok: ∀e∈R,Ent.ok e:=fun e he=>by
         rcases (hPR.mem e).1 he with rfl|⟨he, -⟩
         ·exact ⟨HN.out,HFA.out.1,(by show i≤40;omega),hgl,HKD'.out⟩
         ·exact HLX.out e he
        have hR24:R.length≤24:=by have:=hPR.len;have:=HNL.out;have:=H24.out;omega
        have hC9:=HC8.out.below hb89
        have hlt8: ∀b,G b→b<w8.heap.size:=HC8.out.lt
        have hse:=fsetentries_any (H8.out.below hb89) hC9 (fun b hb hg=>absurd (HH.out.fs.log.lt b hb) (Nat.not_lt.2 (Nat.le_trans HB7.out.size (HG8.out b hg)))) (fun b hb hg=>absurd (HH.out.fs.disk.lt b hb) (Nat.not_lt.2 (Nat.le_trans HB7.out.size (HG8.out b hg)))) (fun hg=>absurd (lt_of_block HH.out.fs.blk) (Nat.not_lt.2 (Nat.le_trans HB7.out.size (HG8.out s hg)))) (by omega) H0.out (HV.out _) (hO9.sl elEn.len) (fun r hr hg=>absurd (hlt8 r hg) (Nat.not_lt.2 (hO9.lo r hr))) hRok hPR.rise hR24
        rw [HJ.out] at hse
        refine hse.mono ?_
        rintro e w10 ⟨rfl,G10,T10,H10,e10,bl10,hST,hC10,hm10,hG10⟩
        have hGb: ∀b,b<w7.heap.size→¬ G b:=fun b hb hg=>absurd hb (Nat.not_lt.2 (HG8.out b hg))
        have hS10:=And.intro (hm10.heap hS9.1 (hGb _ (lt_of_block HF7.out))) (hm10.heap hS9.2 (hGb _ (lt_of_block HX7.out)))
        refine hK _ _ hS10 ?_
        clear hK K hse
        refine x_nil ?_
        have hr9:=(hb89.block _ (lt_of_block HR8.out)).trans HR8.out
        have hres10:=hm10.heap hr9 (hGb _ (lt_of_block HRES7.out))
        have q0:w10.cell? ⟨w6.heap.size,0,none⟩=some (.int .i64 (i:Nat)):=cell_of hS10.2 rfl
        have q1:w10.cell? ⟨w6.heap.size,1,none⟩=some (.int .i64 (gn:Nat)):=cell_of hS10.2 rfl
        have hfits:(Ino.mk kd gn 1 (List.replicate 8 0)).fits:=⟨by show kd<4;have:=HKD'.out;omega,by show gn<2147483648;omega,by show 1<1099511627776;decide,rfl,by intro p hp;rw [List.eq_of_mem_replicate (a:=0) (n:=8) hp];decide⟩
        have hright:(Ino.mk kd gn 1 (List.replicate 8 0)).right=true:=by
         rcases HKD'.out with rfl|rfl<;>rfl
        have hsi:=fsetinode_any hC10 i (by omega) _ hfits hright
        have hbn:=built_new kd gn
        have hm80:Mod G w w10:=((mod_of_new HB8.out).trans (mod_of_new hb89) (fun _ h=>h) fun _ _ h=>h).trans hm10 (fun _ h=>h) fun _ _ h=>h
        have HST:=Lib.hid hST
        have HM10:=Lib.hid hm80
        have HG10:=Lib.hid hG10
        have HPR:=Lib.hid hPR
        have HROK:=Lib.hid hRok
        have HX10:=Lib.hid hS10.2
        have HRES10:=Lib.hid hres10
        have z9:=hb89.size
        have z10:=hm10.size
        have HZ10:=Lib.hid (Nat.le_trans z9 z10)
        have HZ9:=Lib.hid z9
        clear hO9 hPR hb9 hb89 hS9 hRok hC9 hST hC10 hm10 hG10 hGb hS10 hr9 hres10 hfits hright hm80 z9 z10 hlt8
        go_wp2_with (first
         | ((with_reducible refine wpList_exec rfl (exec_buildA (vals:= [(0, .int .i64 (kd:Nat)),(1, .int .i64 (gn:Nat)),(2, .int .u64 1)]) ?_ hbn) ?_);rfl;go_frame)
         | fail)
        refine hsi.mono ?_
        rintro e w11 ⟨rfl,G11,hC11,hm11,hG11⟩
        have hG10w: ∀b,G10 b→w7.heap.size≤b:=fun b hb=>(HG10.out b hb).elim (HG8.out b) fun h=>by have:=HZ78.out;have:=HZ9.out;omega
        have hG11w: ∀b,G11 b→w7.heap.size≤b:=fun b hb=>(hG11 b hb).elim (hG10w b) fun h=>by have:=HZ78.out;have:=HZ10.out;omega
        have hX11:=hm11.heap HX10.out (fun hg=>absurd (lt_of_block HX7.out) (Nat.not_lt.2 (hG10w _ hg)))
        have hres11:=hm11.heap HRES10.out (fun hg=>absurd (lt_of_block HRES7.out) (Nat.not_lt.2 (hG10w _ hg)))
        have hm0:Mod G11 w w11:=(HM10.out.mono (T:=G11) fun x hx hg=>absurd hx (Nat.not_lt.2 (Nat.le_trans HB7.out.size (HG8.out x hg)))).trans hm11 (fun _ h=>h) fun x hx hg=>absurd hx (Nat.not_lt.2 (Nat.le_trans HB7.out.size (hG10w x hg)))
        have hGw: ∀b,G11 b→w.heap.size≤b:=fun b hb=>Nat.le_trans HB7.out.size (hG11w b hb)
        have HX11:=Lib.hid hX11
        have HRES11:=Lib.hid hres11
        have HM0:=Lib.hid hm0
        have HGW:=Lib.hid hGw
        have HG11:=Lib.hid hG11w
        have z11:=hm11.size
        have hcr:=create_rep HH.out.rep HJB.out HOF.out.2 ⟨HFA.out.1,hI41⟩ HMAY.out HKD'.out HROK.out HPR.out.rise (by have:=HPR.out.len;have:=HNL.out;have:=H24.out;omega) (HV.out j) HST.out
        rw [HGN.out] at hcr
        clear hsi hm11 hG11 hX11 hm0 hGw hG10w hG11w q0 q1
        rcases hcr with ⟨rfl,M',hN',hr',hrep',hck'⟩|⟨rfl,hstuck⟩
        ·have hco:=fcommitR HH.out HM0.out HGW.out hC11 hck' HQ.out HCHK.out
         have HMN:=Lib.hid hN'
         have HMR:=Lib.hid hr'
         have HREP:=Lib.hid hrep'
         have HCK:=Lib.hid hck'
         obtain ⟨PH,hPH⟩: ∃PH,putH (putH (putH H10 (1+j) (Ino.sec ⟨1,(M.N j).gen,(M.N j).ver+1,bl10⟩)) (1+i) (Ino.sec ⟨kd,gn,1,List.replicate 8 0⟩)) 1 (mapSec T10)=PH:=⟨_,rfl⟩
         rw [hPH] at hco HREP
         have HPH:=Lib.hid hPH
         clear hC11 hN' hr' hrep' hck' hPH hres11
         go_wp2_with fail
         refine hco.mono ?_
         rintro e w12 ⟨rfl,F12,FD12,hF12,hm12,hF12a,hF12b⟩
         have HP12:Hid (FPostG w11 F FD G11 s g p (stPut l d (putsOf l d PH)) (.returned (.int .i64 ((stPut l d (putsOf l d PH)).2.2:Nat))) w12):=Lib.hid ⟨rfl,F12,FD12,hF12,hm12,hF12a,hF12b⟩
         have hnot: ∀b,w.heap.size≤b→b<w7.heap.size→¬((F b∨FD b)∨G11 b):=fun b h1 h2 h=>by
          rcases h with (h|h)|h
          ·have:=HH.out.fs.log.lt b h;omega
          ·have:=HH.out.fs.disk.lt b h;omega
          ·have:=HG11.out b h;omega
         have hX12:=hm12.heap HX11.out (hnot _ (Nat.le_of_lt HX6.out) (lt_of_block HX7.out))
         have hres12:=hm12.heap HRES11.out (hnot _ (by have:=HZ1.out;omega) (lt_of_block HRES7.out))
         have hL12:=lies_of hX12
         have hr1:w1.heap.size<w11.heap.size:=lt_of_block HRES11.out
         have hck15:ChOk (l.homes d) PH 15:=by
          rw [←HPH.out]
          exact HCK.out.put (by omega) (mapSec_sec T10)
         have hP1: ∃k b,PH k=some b:=⟨1,mapSec T10,by rw [←HPH.out];exact if_pos rfl⟩
         have hyes:CreateYes M f t (kd:Int) i gn M':=⟨HN.out,HKD.out,H0.out,by rw [HJ.out];exact HNO.out,by rw [HJ.out,HNL.out];have:=H24.out;omega,HFA.out,HGN.out.symm,⟨R,by rw [HJ.out];exact HPR.out,by rw [HJ.out];exact HMN.out⟩,HMR.out⟩
         have HYES:=Lib.hid hyes
         have HCK15:=Lib.hid hck15
         have HP1:=Lib.hid hP1
         have HR1:=Lib.hid hr1
         obtain ⟨cd,hcd⟩: ∃cd,(stPut l d (putsOf l d PH)).2.2=cd:=⟨_,rfl⟩
         rw [hcd]
         have HCD:=Lib.hid hcd
         clear hco hF12 hm12 hF12a hF12b hnot hX12 hck15 hP1 hyes hcd hr1
         by_cases hc0:cd=0
         ·subst hc0
          go_wp2_with (first
           | ((with_reducible refine wpList_loadA hagi hL12 ?_ ?_);rfl;go_frame)
           | ((with_reducible refine wpList_storeB hagi ?_ ?_ hres12 rfl honei ?_);rfl;rfl;(intro w13 hh9 hm9;have HH9:=Lib.hid hh9;have HM9:=Lib.hid hm9;clear hh9 hm9);go_frame)
           | fail)
          refine bodyPost_ret (results_cellT rfl _ rfl hagi (lies_of HH9.out)) rfl ?_
          refine ⟨i,gn, .inr ⟨PH,M',HCK15.out,HP1.out,HREP.out,HYES.out,?_,Pst.of_post HH.out HM0.out HGW.out HP12.out HM9.out fun r (e:r=w1.heap.size)=>by rw [e];exact ⟨by have:=HZ1.out;omega,HR1.out⟩⟩⟩
          rw [HCD.out]
          rfl
         ·have hz:((cd:Int) !=0)=true:=by simp;omega
          have HC0:=Lib.hid hc0
          clear hc0
          go_wp2_with (first
           | ((with_reducible refine wpList_storeB hag0 ?_ ?_ hres12 rfl hone0 ?_);rfl;rfl;(intro w13 hh9 hm9;have HH9:=Lib.hid hh9;have HM9:=Lib.hid hm9;clear hh9 hm9);go_frame)
           | fail)
          refine bodyPost_ret (results_cellT rfl _ rfl hag0 (lies_of HH9.out)) rfl ?_
          refine ⟨i,gn, .inr ⟨PH,M',HCK15.out,HP1.out,HREP.out,HYES.out,?_,Pst.of_post HH.out HM0.out HGW.out HP12.out HM9.out fun r (e:r=w1.heap.size)=>by rw [e];exact ⟨by have:=HZ1.out;omega,HR1.out⟩⟩⟩
          rw [HCD.out,retC_no HC0.out]
          rfl
        ·have hco:=fcommit_bad hC11 (by decide)
         have HSTK:=Lib.hid hstuck
         have hb11:Below w.heap.size w w11:=HM0.out.below (Nat.le_refl _) fun x hx hg=>absurd hx (Nat.not_lt.2 (HGW.out x hg))
         have HB11:=Lib.hid hb11
         rw [show ((8:Nat):Int)=8 from rfl] at hco
         clear hC11 hstuck hb11
         go_wp2_with fail
         refine hco.mono ?_
         rintro e w12 ⟨rfl,hw⟩
         obtain rfl:=hw.symm
         clear hw hco
         go_wp2_with (first
          | ((with_reducible refine wpList_storeB hag0 ?_ ?_ hres11 rfl hone0 ?_);rfl;rfl;(intro w9 hh9 hm9;have HH9:=Lib.hid hh9;have HM9:=Lib.hid hm9;clear hh9 hm9);go_frame)
          | fail)
         refine bodyPost_ret (results_cellT rfl _ rfl hag0 (lies_of HH9.out)) rfl ?_
         exact ⟨0,0, .inl ⟨8,by decide, .full i R HN.out HKD.out H0.out (by rw [HJ.out];exact HNO.out) (by rw [HJ.out,HNL.out];have:=H24.out;omega) HFA.out (by rw [HJ.out,HGN.out];exact HPR.out) (by rw [HJ.out];exact HSTK.out),rfl,HB11.out.trans (HM9.out.below HB11.out.size fun y hy e=>by have h1:=HZ1.out;omega)⟩⟩
       ·have HNONE:=Lib.hid hnone
        clear hnone
        go_wp2_with (first
         | ((with_reducible refine wpList_storeB hag0 ?_ ?_ hres7 rfl hone0 ?_);rfl;rfl;(intro w9 hh9 hm9;have HH9:=Lib.hid hh9;have HM9:=Lib.hid hm9;clear hh9 hm9);go_frame)
         | fail)
        refine bodyPost_ret (results_cellT rfl _ rfl hag0 (lies_of HH9.out)) rfl ?_
        exact ⟨0,0, .inl ⟨8,by decide, .none HN.out HKD.out H0.out HNO.out HNONE.out,rfl,HB7.out.trans (HM9.out.below HB7.out.size fun y hy e=>by have h1:=HZ1.out;omega)⟩⟩
  ·have hk1:(kind !=1)=true:=by rw [bne_iff_ne];exact fun e=>hkd (.inl e)
   have hk2:(kind !=2)=true:=by rw [bne_iff_ne];exact fun e=>hkd (.inr e)
   go_wp2_with (first
    | ((with_reducible refine wpList_storeB hag0 ?_ ?_ hres3 rfl hone0 ?_);rfl;rfl;(intro w9 hh9 hm9;have HH9:=Lib.hid hh9;have HM9:=Lib.hid hm9;clear hh9 hm9);go_frame)
    | fail)
   refine bodyPost_ret (results_cellT rfl _ rfl hag0 (lies_of HH9.out)) rfl ?_
   exact ⟨0,0, .inl ⟨2,by decide, .kind HN.out (fun e=>hkd (.inl e)) (fun e=>hkd (.inr e)),rfl,HB3.out.trans (HM9.out.below HB3.out.size fun y hy e=>by have h1:=HZ1.out;omega)⟩⟩
end
end Go.Proofs.YtjdbbnhnbdocbaaGreat
