import Derived.Test.YtjdbbnhnbdocbaaGreatMgGon22
import Derived.Test.YtjdbbnhnbdocbaaGreatRows
import Derived.Test.YtjdbbnhnbdocbaaGreatMgGon3
import Derived.Test.YtjdbbnhnbdocbaaGreatMgGon4
import Derived.BigQuiet
import Derived.Test.YtjdbbnhnbdocbaaGreatMgGon6
import Derived.Deep.Cut
import Derived.Deep.CutBlock
import Derived.Maps.RangeWalk
import Derived.Test.YtjdbbnhnbdocbaaGreatMgGon5
import Derived.Test.YtjdbbnhnbdocbaaGreatMgGon1
namespace Go.Tn.Fm
open Go.RowKit Go.Tn.Bt Go.Tn.Ino Go.Tn.Dr
structure Nd where
 kind:Nat
 gen:Nat
 ver:Nat
 L:List Ent
 D:List ByteArray
def emp:ByteArray:=ByteArray.empty
def Nd.no (g:Nat):Nd:=⟨0,g,0, [],List.replicate 8 emp⟩
def fileSec (s:ByteArray):List Nat:=s.size::(bsz s).map (·.toNat)++List.replicate (127-s.size) 0
theorem fileSec_len {s:ByteArray} (h:s.size≤127):(fileSec s).length=128:=by
 unfold fileSec
 simp [bsz_len]
 omega
theorem fileSec_lt {s:ByteArray} (h:s.size≤127): ∀x∈fileSec s,x<256:=fun x hx=>by
 unfold fileSec at hx
 rcases List.mem_append.1 hx with hx|hx
 ·rcases List.mem_cons.1 hx with rfl|hx
  ·omega
  ·obtain ⟨c, -,rfl⟩:=List.mem_map.1 hx
   exact UInt8.toNat_lt _
 ·rw [List.eq_of_mem_replicate hx]
  decide
def Nd.blk (n:Nd) (k:Nat):Option (List Nat):=
 if n.kind=1 then (dirB n.L)[k]? else
 if n.kind=2 then (if (n.D[k]?).getD emp=emp then none else some (fileSec ((n.D[k]?).getD emp))) else none
def takenP (P:Nat→List Nat):Nat→Bool:=fun i=>decide (i<42)||(List.range 41).any fun j=>(P j).contains i
theorem takenP_iff {P:Nat→List Nat} {i:Nat}:takenP P i=true↔i<42∨ ∃j,j<41∧i∈P j:=by
 unfold takenP
 simp
structure Mid (n:Nat) (T:Nat→Bool) (V:Nat→List Nat) (P:Nat→List Nat) (W:Nat→Nat→Option (List Nat)):Prop where
 len: ∀j,(P j).length=8
 out: ∀j,¬(1≤j∧j<41)→P j=List.replicate 8 0
 lo: ∀j, ∀p∈P j,p≠0→42≤p∧p<n
 T: ∀i,T i=takenP P i
 one: ∀(j k j' k' p:Nat),(P j)[k]?=some p→(P j')[k']?=some p→p≠0→j=j'∧k=k'
 has: ∀(j k p:Nat),(P j)[k]?=some p→(p≠0↔W j k≠none)
 at_: ∀(j k p:Nat) (b:List Nat),(P j)[k]?=some p→p≠0→W j k=some b→V p=b
def upd {α:Type} (f:Nat→α) (j:Nat) (x:α):Nat→α:=fun i=>if i=j then x else f i
theorem upd_at {α:Type} (f:Nat→α) (j:Nat) (x:α):upd f j x j=x:=if_pos rfl
theorem upd_ne {α:Type} (f:Nat→α) {i j:Nat} (x:α) (h:i≠j):upd f j x i=f i:=if_neg h
theorem upd_same {α:Type} (f:Nat→α) (j:Nat):upd f j (f j)=f:=by
 funext i
 unfold upd
 split
 ·rename_i h
  rw [h]
 ·rfl
theorem upd_upd {α:Type} (f:Nat→α) (j:Nat) (x y:α):upd (upd f j x) j y=upd f j y:=by
 funext i
 unfold upd
 split<;>rfl
section
variable {n:Nat} {T:Nat→Bool} {V:Nat→List Nat} {P:Nat→List Nat} {W:Nat→Nat→Option (List Nat)} {j k p:Nat} {b:List Nat}
theorem Mid.dirs (h:Mid n T V P W) {j p:Nat} (hp:p∈P j) (h0:p≠0):1≤j∧j<41:=by
 apply Classical.byContradiction
 intro hj
 rw [h.out j hj] at hp
 exact h0 (List.eq_of_mem_replicate hp)
theorem Mid.used (h:Mid n T V P W) {p:Nat} (hp:p∈P j) (h0:p≠0):T p=true:=by
 rw [h.T,takenP_iff]
 exact .inr ⟨j,(h.dirs hp h0).2,hp⟩
theorem Mid.over (h:Mid n T V P W) (hp:(P j)[k]?=some p) (h0:p≠0) (b:List Nat):Mid n T (upd V p b) P (upd W j (upd (W j) k (some b))):=by
 refine ⟨h.len,h.out,h.lo,h.T,h.one,fun j' k' p' hp'=> ?_,fun j' k' p' b' hp' h0' hw=> ?_⟩
 ·by_cases hj:j'=j
  ·subst hj
   rw [upd_at]
   by_cases hk:k'=k
   ·subst hk
    rw [upd_at]
    rw [hp] at hp'
    cases hp'
    simp [h0]
   ·rw [upd_ne _ _ hk]
    exact h.has j' k' p' hp'
  ·rw [upd_ne _ _ hj]
   exact h.has j' k' p' hp'
 ·by_cases hjk:j'=j∧k'=k
  ·obtain ⟨rfl,rfl⟩:=hjk
   rw [upd_at,upd_at] at hw
   cases hw
   rw [hp] at hp'
   cases hp'
   exact upd_at _ _ _
  ·have hne:p'≠p:=fun e=>hjk (h.one j' k' j k p' hp' (e ▸ hp) h0')
   rw [upd_ne _ _ hne]
   refine h.at_ j' k' p' b' hp' h0' ?_
   by_cases hj:j'=j
   ·subst hj
    rw [upd_at,upd_ne _ _ fun e=>hjk ⟨rfl,e⟩] at hw
    exact hw
   ·rwa [upd_ne _ _ hj] at hw
theorem Mid.take (h:Mid n T V P W) (hj:1≤j∧j<41) (hk:(P j)[k]?=some 0) (hp:T p=false) (hpn:p<n) (b:List Nat):Mid n (upd T p true) (upd V p b) (upd P j ((P j).set k p)) (upd W j (upd (W j) k (some b))):=by
 have hfree: ∀j',p∉P j':=fun j' hm=>by
  have h42:¬ p<42:=fun e=>by
   rw [h.T,takenP_iff.2 (.inl e)] at hp
   cases hp
  have:=h.used hm (by omega)
  rw [hp] at this
  cases this
 have h42:42≤p:=by
  apply Classical.byContradiction
  intro e
  rw [h.T,takenP_iff.2 (.inl (by omega))] at hp
  cases hp
 have hkl:k<(P j).length:=(List.getElem?_eq_some_iff.1 hk).1
 have hget: ∀j' k' p',(upd P j ((P j).set k p) j')[k']?=some p'→(j'=j∧k'=k∧p'=p)∨(¬(j'=j∧k'=k)∧(P j')[k']?=some p'):=fun j' k' p' hp'=>by
  by_cases hjj:j'=j
  ·subst hjj
   rw [upd_at,List.getElem?_set] at hp'
   by_cases hkk:k=k'
   ·subst hkk
    rw [if_pos rfl,if_pos hkl] at hp'
    exact .inl ⟨rfl,rfl,(Option.some.inj hp').symm⟩
   ·rw [if_neg hkk] at hp'
    exact .inr ⟨fun e=>hkk e.2.symm,hp'⟩
  ·rw [upd_ne _ _ hjj] at hp'
   exact .inr ⟨fun e=>hjj e.1,hp'⟩
 have hW: ∀j' k',¬(j'=j∧k'=k)→upd W j (upd (W j) k (some b)) j' k'=W j' k':=fun j' k' hn=>by
  by_cases hjj:j'=j
  ·subst hjj
   rw [upd_at,upd_ne _ _ fun e=>hn ⟨rfl,e⟩]
  ·rw [upd_ne _ _ hjj]
 refine ⟨fun j'=> ?_,fun j' hj'=> ?_,fun j' p' hp' h0=> ?_,fun i=> ?_,fun j1 k1 j2 k2 p' h1 h2 h0=> ?_,fun j' k' p' hp'=> ?_,fun j' k' p' b' hp' h0 hw=> ?_⟩
 ·by_cases hjj:j'=j
  ·rw [hjj,upd_at,List.length_set,h.len]
  ·rw [upd_ne _ _ hjj,h.len]
 ·rw [upd_ne _ _ (fun e=>hj' (by rw [e];exact hj)),h.out j' hj']
 ·obtain ⟨k',hk'⟩:=List.mem_iff_getElem?.1 hp'
  rcases hget j' k' p' hk' with ⟨-, -,rfl⟩|⟨-,h2⟩
  ·exact ⟨h42,hpn⟩
  ·exact h.lo j' p' (List.mem_of_getElem? h2) h0
 ·by_cases hi:i=p
  ·subst hi
   rw [upd_at]
   refine (takenP_iff.2 (.inr ⟨j,hj.2,?_⟩)).symm
   rw [upd_at]
   exact List.mem_of_getElem? (by rw [List.getElem?_set,if_pos rfl,if_pos hkl])
  ·rw [upd_ne _ _ hi,h.T]
   rw [Bool.eq_iff_iff,takenP_iff,takenP_iff]
   constructor
   ·rintro (h1|⟨j',h1,h2⟩)
    ·exact .inl h1
    ·by_cases hi0:i=0
     ·exact .inl (by omega)
     ·refine .inr ⟨j',h1,?_⟩
      by_cases hjj:j'=j
      ·subst hjj
       rw [upd_at]
       obtain ⟨k',hk'⟩:=List.mem_iff_getElem?.1 h2
       refine List.mem_of_getElem? (i:=k') ?_
       rw [List.getElem?_set,if_neg (fun e=>by
        subst e
        rw [hk] at hk'
        cases hk'
        exact hi0 rfl)]
       exact hk'
      ·rw [upd_ne _ _ hjj]
       exact h2
   ·rintro (h1|⟨j',h1,h2⟩)
    ·exact .inl h1
    ·obtain ⟨k',hk'⟩:=List.mem_iff_getElem?.1 h2
     rcases hget j' k' i hk' with ⟨-, -,e⟩|⟨-,h3⟩
     ·exact absurd e hi
     ·exact .inr ⟨j',h1,List.mem_of_getElem? h3⟩
 ·rcases hget j1 k1 p' h1 with ⟨a1,a2,a3⟩|⟨a1,a2⟩
  ·rcases hget j2 k2 p' h2 with ⟨b1,b2,b3⟩|⟨b1,b2⟩
   ·exact ⟨a1.trans b1.symm,a2.trans b2.symm⟩
   ·exact absurd (List.mem_of_getElem? b2) (a3 ▸ hfree j2)
  ·rcases hget j2 k2 p' h2 with ⟨b1,b2,b3⟩|⟨b1,b2⟩
   ·exact absurd (List.mem_of_getElem? a2) (b3 ▸ hfree j1)
   ·exact h.one j1 k1 j2 k2 p' a2 b2 h0
 ·rcases hget j' k' p' hp' with ⟨rfl,rfl,rfl⟩|⟨hn,h2⟩
  ·rw [upd_at,upd_at]
   simp
   omega
  ·rw [hW j' k' hn]
   exact h.has j' k' p' h2
 ·rcases hget j' k' p' hp' with ⟨rfl,rfl,rfl⟩|⟨hn,h2⟩
  ·rw [upd_at,upd_at] at hw
   cases hw
   exact upd_at _ _ _
  ·rw [hW j' k' hn] at hw
   have hne:p'≠p:=fun e=>hfree j' (e ▸ List.mem_of_getElem? h2)
   rw [upd_ne _ _ hne]
   exact h.at_ j' k' p' b' h2 h0 hw
theorem Mid.give (h:Mid n T V P W) (hk:(P j)[k]?=some p) (h0:p≠0) (x:List Nat):Mid n (upd T p false) (upd V p x) (upd P j ((P j).set k 0)) (upd W j (upd (W j) k none)):=by
 have hj:=h.dirs (List.mem_of_getElem? hk) h0
 have hkl:k<(P j).length:=(List.getElem?_eq_some_iff.1 hk).1
 have h42:=h.lo j p (List.mem_of_getElem? hk) h0
 have hget: ∀j' k' p',(upd P j ((P j).set k 0) j')[k']?=some p'→(j'=j∧k'=k∧p'=0)∨(¬(j'=j∧k'=k)∧(P j')[k']?=some p'):=fun j' k' p' hp'=>by
  by_cases hjj:j'=j
  ·subst hjj
   rw [upd_at,List.getElem?_set] at hp'
   by_cases hkk:k=k'
   ·subst hkk
    rw [if_pos rfl,if_pos hkl] at hp'
    exact .inl ⟨rfl,rfl,(Option.some.inj hp').symm⟩
   ·rw [if_neg hkk] at hp'
    exact .inr ⟨fun e=>hkk e.2.symm,hp'⟩
  ·rw [upd_ne _ _ hjj] at hp'
   exact .inr ⟨fun e=>hjj e.1,hp'⟩
 have hW: ∀j' k',¬(j'=j∧k'=k)→upd W j (upd (W j) k none) j' k'=W j' k':=fun j' k' hn=>by
  by_cases hjj:j'=j
  ·subst hjj
   rw [upd_at,upd_ne _ _ fun e=>hn ⟨rfl,e⟩]
  ·rw [upd_ne _ _ hjj]
 refine ⟨fun j'=> ?_,fun j' hj'=> ?_,fun j' p' hp' h0'=> ?_,fun i=> ?_,fun j1 k1 j2 k2 p' h1 h2 h0'=> ?_,fun j' k' p' hp'=> ?_,fun j' k' p' b' hp' h0' hw=> ?_⟩
 ·by_cases hjj:j'=j
  ·rw [hjj,upd_at,List.length_set,h.len]
  ·rw [upd_ne _ _ hjj,h.len]
 ·rw [upd_ne _ _ (fun e=>hj' (by rw [e];exact hj)),h.out j' hj']
 ·obtain ⟨k',hk'⟩:=List.mem_iff_getElem?.1 hp'
  rcases hget j' k' p' hk' with ⟨-, -,rfl⟩|⟨-,h2⟩
  ·exact absurd rfl h0'
  ·exact h.lo j' p' (List.mem_of_getElem? h2) h0'
 ·by_cases hi:i=p
  ·subst hi
   rw [upd_at]
   cases hc:takenP (upd P j ((P j).set k 0)) i with
   | false=>rfl
   | true=>
    rcases takenP_iff.1 hc with h1|⟨j',h1,h2⟩
    ·omega
    ·obtain ⟨k',hk'⟩:=List.mem_iff_getElem?.1 h2
     rcases hget j' k' i hk' with ⟨-, -,e⟩|⟨hn,h3⟩
     ·exact absurd e h0
     ·exact absurd (h.one j' k' j k i h3 hk h0) hn
  ·rw [upd_ne _ _ hi,h.T]
   rw [Bool.eq_iff_iff,takenP_iff,takenP_iff]
   constructor
   ·rintro (h1|⟨j',h1,h2⟩)
    ·exact .inl h1
    ·refine .inr ⟨j',h1,?_⟩
     by_cases hjj:j'=j
     ·subst hjj
      rw [upd_at]
      obtain ⟨k',hk'⟩:=List.mem_iff_getElem?.1 h2
      refine List.mem_of_getElem? (i:=k') ?_
      rw [List.getElem?_set,if_neg (fun e=>by
       subst e
       rw [hk] at hk'
       cases hk'
       exact hi rfl)]
      exact hk'
     ·rw [upd_ne _ _ hjj]
      exact h2
   ·rintro (h1|⟨j',h1,h2⟩)
    ·exact .inl h1
    ·obtain ⟨k',hk'⟩:=List.mem_iff_getElem?.1 h2
     rcases hget j' k' i hk' with ⟨-, -,e⟩|⟨-,h3⟩
     ·exact .inl (by omega)
     ·exact .inr ⟨j',h1,List.mem_of_getElem? h3⟩
 ·rcases hget j1 k1 p' h1 with ⟨a1,a2,a3⟩|⟨a1,a2⟩
  ·exact absurd a3 h0'
  ·rcases hget j2 k2 p' h2 with ⟨b1,b2,b3⟩|⟨b1,b2⟩
   ·exact absurd b3 h0'
   ·exact h.one j1 k1 j2 k2 p' a2 b2 h0'
 ·rcases hget j' k' p' hp' with ⟨rfl,rfl,rfl⟩|⟨hn,h2⟩
  ·rw [upd_at,upd_at]
   simp
  ·rw [hW j' k' hn]
   exact h.has j' k' p' h2
 ·rcases hget j' k' p' hp' with ⟨rfl,rfl,rfl⟩|⟨hn,h2⟩
  ·exact absurd rfl h0'
  ·rw [hW j' k' hn] at hw
   have hne:p'≠p:=fun e=>hn (h.one j' k' j k p' h2 (e ▸ hk) h0')
   rw [upd_ne _ _ hne]
   exact h.at_ j' k' p' b' h2 h0' hw
theorem Mid.view {V':Nat→List Nat} (h:Mid n T V P W) (hV: ∀p,42≤p→T p=true→V' p=V p):Mid n T V' P W:=
 ⟨h.len,h.out,h.lo,h.T,h.one,h.has,fun j k p b hp h0 hw=>by
  rw [hV p (h.lo j p (List.mem_of_getElem? hp) h0).1 (h.used (List.mem_of_getElem? hp) h0)]
  exact h.at_ j k p b hp h0 hw⟩
theorem Mid.congr {W':Nat→Nat→Option (List Nat)} (h:Mid n T V P W) (hW: ∀j k,k<8→W' j k=W j k):Mid n T V P W':=
 ⟨h.len,h.out,h.lo,h.T,h.one,fun j k p hp=>by
  rw [hW j k (by have:=(List.getElem?_eq_some_iff.1 hp).1;rwa [h.len] at this)]
  exact h.has j k p hp,fun j k p b hp h0 hw=>by
  rw [hW j k (by have:=(List.getElem?_eq_some_iff.1 hp).1;rwa [h.len] at this)] at hw
  exact h.at_ j k p b hp h0 hw⟩
end
end Go.Tn.Fm
namespace Go.Proofs.YtjdbbnhnbdocbaaGreat.Al
open Go.RowKit Go.Tn Go.Tn.Bits
set_option maxRecDepth 20000
def wd (T:Nat→Bool) (k:Nat):Nat:=num (fun j=>T (64*k+j)) 64
theorem wd_lt (T:Nat→Bool) (k:Nat):wd T k<18446744073709551616:=num_lt _ 64
def mapCells (n:Nat) (T:Nat→Bool):Array Value:=(Value.int .i64 n::(List.range 16).map fun k=>Value.int .u64 (wd T k)).toArray
theorem mapCells_0 (n:Nat) (T:Nat→Bool):(mapCells n T)[0]?=some (.int .i64 n):=rfl
theorem mapCells_w (n:Nat) (T:Nat→Bool) {k:Nat} (h:k<16):(mapCells n T)[1+k]?=some (.int .u64 (wd T k)):=by
 simp [mapCells,Nat.add_comm 1 k,h]
theorem mapCells_set (n:Nat) (T T':Nat→Bool) {k:Nat} (h:k<16) (hT: ∀j,j<16→j≠k→wd T' j=wd T j):(mapCells n T).setIfInBounds (1+k) (.int .u64 (wd T' k))=mapCells n T':=by
 apply Array.ext'
 apply List.ext_getElem?
 intro i
 simp only [mapCells,Array.toList_setIfInBounds]
 rw [List.getElem?_set]
 cases i with
 | zero=>simp
 | succ i=>
  by_cases hi:i<16
  ·by_cases hk:i=k
   ·subst hk;simp [Nat.add_comm 1,hi]
   ·have:1+k≠i+1:=by omega
    simp [this,hi,hT i hi hk]
  ·have:1+k≠i+1:=by omega
   simp [this,hi]
structure MapAt (w:World) (b n:Nat) (T:Nat→Bool):Prop where
 blk:w.heap[b]?=some (.cells (mapCells n T) 131 (0,0))
 pos:1≤n
 le:n≤1024
 out: ∀i,n≤i→T i=false
theorem MapAt.n_ {w:World} {b n:Nat} {T:Nat→Bool} (h:MapAt w b n T):w.cell? ⟨b,0,none⟩=some (.int .i64 n):=cell_of h.blk (mapCells_0 n T)
theorem MapAt.w_ {w:World} {b n:Nat} {T:Nat→Bool} (h:MapAt w b n T) {k:Nat} (hk:k<16):w.cell? ⟨b,1+k,none⟩=some (.int .u64 (wd T k)):=cell_of h.blk (mapCells_w n T hk)
theorem MapAt.free {w:World} {b n:Nat} {T:Nat→Bool} (h:MapAt w b n T) {o:Nat}:w.frozen? ⟨b,o,none⟩=false:=free_of h.blk
theorem MapAt.below {w w':World} {b n:Nat} {T:Nat→Bool} {B:Nat} (h:MapAt w b n T) (hb:Below B w w') (hB:b<B):MapAt w' b n T:=⟨(hb.block b hB).trans h.blk,h.pos,h.le,h.out⟩
theorem MapAt.mod {w w':World} {b n:Nat} {T:Nat→Bool} {S:Nat→Prop} (h:MapAt w b n T) (hm:Mod S w w') (hS:¬ S b):MapAt w' b n T:=⟨hm.heap h.blk hS,h.pos,h.le,h.out⟩
theorem ok_any (w:World) (b n:Nat) (T:Nat→Bool) (h:MapAt w b n T):Calls Tryz.prog 130 #[.pointer (some ⟨b,0,none⟩)] w fun e w'=>e= .returned (.bool true)∧w'=w:=by
 have c:=h.n_
 have hp:0<n:=h.pos
 go_enter Tryz.func130,Tryz.ntmps130
 go_wp2
 go_ret
 exact ⟨rfl,rfl⟩
theorem pow_wrap (k:Nat) (h:k<64):IntKind.u64.wrap ((2:Int) ^ k)=((2 ^ k:Nat):Int):=by
 have h2:2 ^ k<18446744073709551616:=Nat.pow_lt_pow_right (by decide) h
 rw [show (2:Int) ^ k=((2 ^ k:Nat):Int) by rw [Int.natCast_pow];rfl]
 exact wrap_u64 _ h2
theorem bit_any (w:World) (i:Nat):Calls Tryz.prog 61 #[.int .i64 i] w fun e w'=>e= .returned (.int .u64 ((2 ^ (63-i %64):Nat):Int))∧w'=w:=by
 have hp:=pow_wrap (63-i %64) (by omega)
 go_enter Tryz.func61,Tryz.ntmps61
 go_wp2
 go_ret
 exact ⟨by rw [←hp];rfl,rfl⟩
theorem MapAt.drewN {w:World} {b n:Nat} {T:Nat→Bool} (h:MapAt w b n T) (k:Nat):MapAt (w.drewN k) b n T:=⟨h.blk,h.pos,h.le,h.out⟩
theorem MapAt.drew {w:World} {b n:Nat} {T:Nat→Bool} (h:MapAt w b n T):MapAt w.drew b n T:=⟨h.blk,h.pos,h.le,h.out⟩
theorem in_yes (w:World) (b n:Nat) (T:Nat→Bool) (h:MapAt w b n T) (i:Nat) (hi:i<n):Calls Tryz.prog 70 #[.pointer (some ⟨b,0,none⟩), .int .i64 i] w fun e w'=>e= .returned (.bool true)∧w'=w:=by
 have c:=h.n_
 go_enter Tryz.func70,Tryz.ntmps70
 go_wp2_with (go_at_call 130;refine (ok_any w b n T h).mono ?_;rintro e w ⟨rfl,rfl⟩)
 go_ret
 first|exact ⟨rfl,rfl⟩|exact ⟨congrArg (fun x=>Ending.returned (.bool x)) (decide_eq_true (by omega)),rfl⟩
theorem in_no (w:World) (b n:Nat) (T:Nat→Bool) (h:MapAt w b n T) (i:Int) (hi:¬ (0≤i∧i<n)):Calls Tryz.prog 70 #[.pointer (some ⟨b,0,none⟩), .int .i64 i] w fun e w'=>e= .returned (.bool false)∧w'=w:=by
 have c:=h.n_
 by_cases h0:0≤i
 ·have h1:¬ (i<n):=fun h=>hi ⟨h0,h⟩
  clear hi
  go_enter Tryz.func70,Tryz.ntmps70
  go_wp2_with (go_at_call 130;refine (ok_any w b n T h).mono ?_;rintro e w ⟨rfl,rfl⟩)
  go_ret
  exact ⟨congrArg (fun x=>Ending.returned (.bool x)) (decide_eq_false (by omega)),rfl⟩
 ·have h0':i<0:=by omega
  go_enter Tryz.func70,Tryz.ntmps70
  go_wp2_with (go_at_call 130;refine (ok_any w b n T h).mono ?_;rintro e w ⟨rfl,rfl⟩)
  go_ret
  exact ⟨rfl,rfl⟩
theorem has_word (T:Nat→Bool) (i:Nat):bits .and .u64 (wd T (i/64):Int) ((2 ^ (63-i %64):Nat):Int)=if T i then ((2 ^ (63-i %64):Nat):Int) else 0:=by
 have hp:2 ^ (63-i %64)<18446744073709551616:=Nat.pow_lt_pow_right (show 1<2 by decide) (show 63-i %64<64 by omega)
 rw [bits_and _ _ (wd_lt T _) hp]
 have:=num_and (fun j=>T (64*(i/64)+j)) (m:=64) (i:=i %64) (by omega)
 have e:64*(i/64)+i %64=i:=by omega
 simp only [e] at this
 unfold wd
 rw [show 63-i %64=64-1-i %64 by omega,this]
 split<;>simp
theorem has_yes (w:World) (b n:Nat) (T:Nat→Bool) (h:MapAt w b n T) (i:Nat) (hi:i<n):Calls Tryz.prog 21 #[.pointer (some ⟨b,0,none⟩), .int .i64 i] w fun e w'=>e= .returned (.bool (T i))∧ ∃k,w'=w.drewN k:=by
 have hw:=has_word T i
 have hbit:=fun w=>bit_any w i
 have hpos:0<2 ^ (63-i %64):=Nat.pow_pos (by decide)
 have c:=h.w_ (k:=i/64) (by have:=h.le;omega)
 have hidx:(i:Int)/64<16:=by have:=h.le;omega
 generalize 2 ^ (63-i %64)=p at*
 generalize wd T (i/64)=x at*
 cases hT:T i
 ·rw [hT] at hw
  simp only [Bool.false_eq_true,if_false] at hw
  have HT:=Lib.hid hT
  clear hT
  go_enter Tryz.func21,Tryz.ntmps21
  go_wp2
  go_quiet (first
   | (go_at_call 70;refine Calls.quiet_of_same (in_yes _ b n T (h.drewN _) i hi))
   | (go_at_call 61;refine Calls.quiet_of_same (hbit _)))
  go_wp2
  go_ret
  exact ⟨rfl,nq,rfl⟩
 ·rw [hT] at hw
  simp only [if_true] at hw
  have HT:=Lib.hid hT
  have hne:((p:Int) !=0)=true:=by simp;omega
  clear hT
  go_enter Tryz.func21,Tryz.ntmps21
  go_wp2
  go_quiet (first
   | (go_at_call 70;refine Calls.quiet_of_same (in_yes _ b n T (h.drewN _) i hi))
   | (go_at_call 61;refine Calls.quiet_of_same (hbit _)))
  go_wp2
  go_ret
  exact ⟨rfl,nq,rfl⟩
theorem cell_set {w:World} {b n:Nat} {T T':Nat→Bool} (h:MapAt w b n T) {k:Nat} (hk:k<16) (hT: ∀j,j<16→j≠k→wd T' j=wd T j) (ho: ∀i,n≤i→T' i=false):
  MapAt (w.setCell ⟨b,1+k,none⟩ (.int .u64 (wd T' k))) b n T':=
 ⟨by rw [heap_setCell_at h.blk,mapCells_set n T T' hk hT],h.pos,h.le,ho⟩
theorem wd_other (T:Nat→Bool) (i:Nat) (v:Bool) {j:Nat} (h:j≠i/64):wd (setB T i v) j=wd T j:=
 num_congr fun l hl=>setB_ne T v (by omega)
theorem wd_or (T:Nat→Bool) (i:Nat):bits .or .u64 (wd T (i/64):Int) ((2 ^ (63-i %64):Nat):Int)=(wd (setB T i true) (i/64):Int):=by
 have hp:2 ^ (63-i %64)<18446744073709551616:=Nat.pow_lt_pow_right (show 1<2 by decide) (show 63-i %64<64 by omega)
 rw [bits_or _ _ (wd_lt T _) hp]
 have:=num_or (fun j=>T (64*(i/64)+j)) (m:=64) (i:=i %64) (by omega)
 unfold wd
 rw [show 63-i %64=64-1-i %64 by omega,this]
 refine congrArg (fun x:Nat=>(x:Int)) (num_congr fun l hl=> ?_)
 unfold setB
 have:(l=i %64)↔(64*(i/64)+l=i):=by omega
 simp only [this]
theorem wd_xor (T:Nat→Bool) (i:Nat):bits .xor .u64 (wd T (i/64):Int) ((2 ^ (63-i %64):Nat):Int)=(wd (setB T i (!T i)) (i/64):Int):=by
 have hp:2 ^ (63-i %64)<18446744073709551616:=Nat.pow_lt_pow_right (show 1<2 by decide) (show 63-i %64<64 by omega)
 rw [bits_xor _ _ (wd_lt T _) hp]
 have:=num_xor (fun j=>T (64*(i/64)+j)) (m:=64) (i:=i %64) (by omega)
 unfold wd
 rw [show 63-i %64=64-1-i %64 by omega,this]
 refine congrArg (fun x:Nat=>(x:Int)) (num_congr fun l hl=> ?_)
 unfold setB
 have:(l=i %64)↔(64*(i/64)+l=i):=by omega
 have e:64*(i/64)+i %64=i:=by omega
 simp only [this,e]
set_option maxRecDepth 20000
theorem size64:(Tryz.prog.info? 37).map (·.size)=some 1:=by kernel_rfl
theorem scalar64:ScalarT Tryz.prog 37:=⟨⟨_,Tryz.underlying37,rfl⟩⟩
theorem turn_yes (w:World) (b n:Nat) (T:Nat→Bool) (hM:MapAt w b n T) (i:Nat) (hi:i<n) (wrong:Int):Calls Tryz.prog 163 #[.pointer (some ⟨b,0,none⟩), .int .i64 i, .bool (T i), .int .i64 wrong] w
  fun e w'=>e= .returned (.int .i64 0)∧MapAt w' b n (setB T i (!T i))∧Mod (fun x=>x=b) w w':=by
 have hbit:=fun w=>bit_any w i
 have c:=hM.w_ (k:=i/64) (by have:=hM.le;omega)
 have hidx:(i:Int)/64<16:=by have:=hM.le;omega
 have hx:=wd_xor T i
 have hq:IntKind.i64.wrap ((i:Int)/64)=(i:Int)/64:=by simp [IntKind.wrap,IntKind.bits,IntKind.signed];omega
 have hq0:(0:Int)≤(i:Int)/64:=by omega
 have hqn:((i:Int)/64).toNat=i/64:=by omega
 have hset: ∀w,MapAt w b n T→MapAt (w.setCell ⟨b,1+i/64,none⟩ (.int .u64 (wd (setB T i (!T i)) (i/64)))) b n (setB T i (!T i)):=fun w hw=>cell_set hw (by have:=hM.le;omega) (fun j _ hj=>wd_other T i _ hj) (fun j hj=>by rw [setB_ne T _ (by omega)];exact hM.out j hj)
 have HS:=Lib.hid hset
 clear hset
 generalize 2 ^ (63-i %64)=p at*
 generalize wd T (i/64)=x at*
 generalize wd (setB T i (!T i)) (i/64)=y at*
 cases hT:T i
 case' false=>skip
 case' true=>skip
 all_goals
  have hH:=has_yes w b n T hM i hi
  rw [hT] at hH
  go_enter Tryz.func163,Tryz.ntmps163
  go_wp2_with (first
   | (go_at_call 130;refine (ok_any _ b n T hM).mono ?_;rintro e w ⟨rfl,rfl⟩)
   | (go_at_call 70;refine (in_yes _ b n T hM i hi).mono ?_;rintro e w ⟨rfl,rfl⟩)
   | (go_at_call 21;refine hH.mono ?_;rintro e w2 ⟨rfl,nd,rfl⟩))
  refine wp_region_x (fun w'=>w'.cell? ⟨b,1+i/64,none⟩=some (.int .u64 x)) [(0,1),(1,1),(2,1),(3,1),(4,1),(5,1),(6,0),(7,1),(10,1),(11,1),(8,2),(9,1),(12,1),(13,3)] (by kernel_rfl) (by kernel_rfl) (by intro d v c a w h;cases d<;>exact h) ?_
  iterate 6 (refine x_take rfl (fun K hK=> ?_);go_simp;refine hK _ ?_;clear hK K)
  refine x_read rfl c (fun w' h=>exec_load1 scalar64 rfl h) ?_
  iterate 3 (refine x_take rfl (fun K hK=> ?_);go_simp;refine hK _ ?_;clear hK K)
  refine x_show' rfl (fun K hK=> ?_)
  go_simp
  refine (hbit _).mono ?_
  rintro e w3 ⟨rfl,hw3⟩
  obtain rfl:=hw3.symm
  clear hw3
  refine hK _ _ c ?_
  clear hK K
  iterate 2 (refine x_take rfl (fun K hK=> ?_);go_simp;refine hK _ ?_;clear hK K)
  refine x_skip rfl (exec_store1 scalar64 size64 rfl rfl rfl c hM.free) ?_
  refine x_nil ?_
  go_wp2
  go_ret
  have hS:=HS.out _ (hM.drewN nd).drew
  rw [hT] at hS
  exact ⟨rfl,hS,((Mod.refl _ w).drewN (nd+1)).setCell _ _ (fun _=>rfl)⟩
theorem turn_wrong (w:World) (b n:Nat) (T:Nat→Bool) (hM:MapAt w b n T) (i:Nat) (hi:i<n) (wrong:Int):Calls Tryz.prog 163 #[.pointer (some ⟨b,0,none⟩), .int .i64 i, .bool (!T i), .int .i64 wrong] w
  fun e w'=>e= .returned (.int .i64 wrong)∧ ∃k,w'=w.drewN k:=by
 cases hT:T i
 case' false=>skip
 case' true=>skip
 all_goals
  have hH:=has_yes w b n T hM i hi
  rw [hT] at hH
  go_enter Tryz.func163,Tryz.ntmps163
  go_wp2_with (first
   | (go_at_call 130;refine (ok_any _ b n T hM).mono ?_;rintro e w ⟨rfl,rfl⟩)
   | (go_at_call 70;refine (in_yes _ b n T hM i hi).mono ?_;rintro e w ⟨rfl,rfl⟩)
   | (go_at_call 21;refine hH.mono ?_;rintro e w2 ⟨rfl,nd,rfl⟩))
  go_ret
  exact ⟨rfl,nd,rfl⟩
theorem turn_out (w:World) (b n:Nat) (T:Nat→Bool) (hM:MapAt w b n T) (i:Int) (hi:¬ (0≤i∧i<n)) (is:Bool) (wrong:Int):Calls Tryz.prog 163 #[.pointer (some ⟨b,0,none⟩), .int .i64 i, .bool is, .int .i64 wrong] w
  fun e w'=>e= .returned (.int .i64 2)∧w'=w:=by
 go_enter Tryz.func163,Tryz.ntmps163
 go_wp2_with (first
  | (go_at_call 130;refine (ok_any _ b n T hM).mono ?_;rintro e w ⟨rfl,rfl⟩)
  | (go_at_call 70;refine (in_no _ b n T hM i hi).mono ?_;rintro e w ⟨rfl,rfl⟩))
 go_ret
 exact ⟨rfl,rfl⟩
def holdA (n:Nat) (T:Nat→Bool) (i:Int):Int:=if 0≤i∧i<n then (if T i.toNat then 10 else 0) else 2
def holdT (n:Nat) (T:Nat→Bool) (i:Int):Nat→Bool:=if 0≤i∧i<n then setB T i.toNat true else T
def giveA (n:Nat) (T:Nat→Bool) (i:Int):Int:=if 0≤i∧i<n then (if T i.toNat then 0 else 11) else 2
def giveT (n:Nat) (T:Nat→Bool) (i:Int):Nat→Bool:=if 0≤i∧i<n then setB T i.toNat false else T
theorem hold_any (w:World) (b n:Nat) (T:Nat→Bool) (hM:MapAt w b n T) (i:Int):Calls Tryz.prog 110 #[.pointer (some ⟨b,0,none⟩), .int .i64 i] w
  fun e w'=>e= .returned (.int .i64 (holdA n T i))∧MapAt w' b n (holdT n T i)∧Mod (fun x=>x=b) w w':=by
 by_cases hi:0≤i∧i<n
 ·unfold holdA holdT
  rw [if_pos hi,if_pos hi]
  obtain ⟨k,rfl⟩:=Int.eq_ofNat_of_zero_le hi.1
  have hk:k<n:=by omega
  rw [Int.toNat_natCast]
  cases hT:T k
  ·have hY:=turn_yes w b n T hM k hk 10
   rw [hT] at hY
   go_enter Tryz.func110,Tryz.ntmps110
   go_wp2_with fail
   refine hY.mono ?_
   rintro e w2 ⟨rfl,h2,m2⟩
   go_wp2
   go_ret
   exact ⟨rfl,h2,m2⟩
  ·have hY:=turn_wrong w b n T hM k hk 10
   rw [hT] at hY
   have HS:=Lib.hid (show setB T k true=T by rw [←hT,setB_self])
   go_enter Tryz.func110,Tryz.ntmps110
   go_wp2_with fail
   refine hY.mono ?_
   rintro e w2 ⟨rfl,nd,rfl⟩
   go_wp2
   go_ret
   exact ⟨rfl,by rw [HS.out];exact hM.drewN nd,(Mod.refl _ w).drewN _⟩
 ·unfold holdA holdT
  rw [if_neg hi,if_neg hi]
  have hY:=turn_out w b n T hM i hi false 10
  go_enter Tryz.func110,Tryz.ntmps110
  go_wp2_with fail
  refine hY.mono ?_
  rintro e w ⟨rfl,rfl⟩
  go_wp2
  go_ret
  exact ⟨rfl,hM,Mod.refl _ _⟩
set_option maxRecDepth 20000
def wordsArr (T:Nat→Bool):Array Value:=((List.range 16).map fun k=>Value.int .u64 (wd T k)).toArray
theorem wordsArr_size (T:Nat→Bool):(wordsArr T).size=16:=by simp [wordsArr]
theorem wordsArr_get (T:Nat→Bool) {k:Nat} (h:k<16):(wordsArr T)[k]?=some (.int .u64 (wd T k)):=by simp [wordsArr,h]
theorem MapAt.lies {w:World} {b n:Nat} {T:Nat→Bool} (h:MapAt w b n T):Lies w b 1 (wordsArr T):=by
 intro j hj
 have hj':j<16:=by rw [wordsArr_size] at hj;exact hj
 rw [h.w_ hj']
 have:=wordsArr_get T hj'
 rw [Array.getElem?_eq_getElem hj] at this
 exact this.symm
theorem aggWords (T:Nat→Bool):AggT Tryz.prog 129 (wordsArr T).size:=⟨⟨_,Tryz.underlying129,rfl⟩,by rw [wordsArr_size];kernel_rfl⟩
theorem new_cells (n:Nat):Tryz.prog.built 131 [(0, .int .i64 n)]=some (mapCells n (fun _=>false)):=by kernel_rfl
theorem new_any (w:World) (n:Nat) (h1:1≤n) (h2:n≤1024):Calls Tryz.prog 60 #[.int .i64 n] w
  fun e w'=>e= .returned (.tuple #[.pointer (some ⟨w.heap.size,0,none⟩), .int .i64 0])∧w'=w.alloc (.cells (mapCells n (fun _=>false)) 131):=by
 go_enter Tryz.func60,Tryz.ntmps60
 go_wp2_with (first
  | ((with_reducible refine wpList_exec rfl (exec_buildA (vals:= [(0, .int .i64 n)]) ?_ (new_cells n)) ?_);rfl;go_frame)
  | fail)
 go_ret2
 exact ⟨rfl,rfl⟩
theorem MapAt.new {w:World} {n:Nat} (h1:1≤n) (h2:n≤1024):MapAt (w.alloc (.cells (mapCells n (fun _=>false)) 131)) w.heap.size n (fun _=>false):=
 ⟨heap_alloc_at,h1,h2,fun _ _=>rfl⟩
theorem MapAt.lt {w:World} {b n:Nat} {T:Nat→Bool} (h:MapAt w b n T):b<w.heap.size:=lt_of_block h.blk
set_option maxRecDepth 20000
theorem give_any (w:World) (b n:Nat) (T:Nat→Bool) (hM:MapAt w b n T) (i:Int):Calls Tryz.prog 139 #[.pointer (some ⟨b,0,none⟩), .int .i64 i] w
  fun e w'=>e= .returned (.int .i64 (giveA n T i))∧MapAt w' b n (giveT n T i)∧Mod (fun x=>x=b) w w':=by
 by_cases hi:0≤i∧i<n
 ·unfold giveA giveT
  rw [if_pos hi,if_pos hi]
  obtain ⟨k,rfl⟩:=Int.eq_ofNat_of_zero_le hi.1
  have hk:k<n:=by omega
  rw [Int.toNat_natCast]
  cases hT:T k
  ·have hY:=turn_wrong w b n T hM k hk 11
   rw [hT] at hY
   have HS:=Lib.hid (show setB T k false=T by rw [←hT,setB_self])
   go_enter Tryz.func139,Tryz.ntmps139
   go_wp2_with fail
   refine hY.mono ?_
   rintro e w2 ⟨rfl,nd,rfl⟩
   go_wp2
   go_ret
   exact ⟨rfl,by rw [HS.out];exact hM.drewN nd,(Mod.refl _ w).drewN _⟩
  ·have hY:=turn_yes w b n T hM k hk 11
   rw [hT] at hY
   go_enter Tryz.func139,Tryz.ntmps139
   go_wp2_with fail
   refine hY.mono ?_
   rintro e w2 ⟨rfl,h2,m2⟩
   go_wp2
   go_ret
   exact ⟨rfl,h2,m2⟩
 ·unfold giveA giveT
  rw [if_neg hi,if_neg hi]
  have hY:=turn_out w b n T hM i hi true 11
  go_enter Tryz.func139,Tryz.ntmps139
  go_wp2_with fail
  refine hY.mono ?_
  rintro e w ⟨rfl,rfl⟩
  go_wp2
  go_ret
  exact ⟨rfl,hM,Mod.refl _ _⟩
theorem lead_any (w:World) (f:Nat→Bool):Calls Tryz.prog 187 #[.int .u64 (num f 64:Nat)] w fun e w'=>e= .returned (.int .i64 (fst f 64))∧w'=w:=by
 have hx:num f 64<18446744073709551616:=num_lt f 64
 refine (Tryz.bits_LeadingZeros64 (num f 64:Nat) w (by omega) (by omega)).mono ?_
 rintro e w' ⟨rfl,rfl⟩
 have hle:=fst_le f 64
 rw [Int.toNat_natCast,bitLen_num f (Nat.le_refl 64)]
 exact ⟨by rw [show (64:Int)-((64-fst f 64:Nat):Int)=(fst f 64:Int) by omega],rfl⟩
theorem wd_not (T:Nat→Bool) (k:Nat):bits .xor .u64 IntKind.u64.max (wd T k:Int)=((num (fun j=> !T (64*k+j)) 64:Nat):Int):=by
 rw [show IntKind.u64.max=((18446744073709551615:Nat):Int) from rfl,bits_xor _ _ (by decide) (wd_lt T k)]
 refine congrArg (fun x:Nat=>(x:Int)) ?_
 apply Nat.eq_of_testBit_eq
 intro j
 unfold wd
 rw [Nat.testBit_xor,testBit_num,testBit_num,show (18446744073709551615:Nat)=2 ^ 64-1 from rfl,Nat.testBit_two_pow_sub_one]
 by_cases hj:j<64<;>simp [hj]
def least (n:Nat) (T:Nat→Bool):Nat:=fst (fun i=> !T i) n
def takeV (n:Nat) (T:Nat→Bool):Value:=if least n T<n then .tuple #[.int .i64 (least n T), .int .i64 0] else .tuple #[.int .i64 (-1), .int .i64 8]
def takeT (n:Nat) (T:Nat→Bool):Nat→Bool:=if least n T<n then setB T (least n T) true else T
set_option maxHeartbeats 1000000 in
theorem take_any (w:World) (b n:Nat) (T:Nat→Bool) (hM:MapAt w b n T):Calls Tryz.prog 140 #[.pointer (some ⟨b,0,none⟩)] w
  fun e w'=>e= .returned (takeV n T)∧MapAt w' b n (takeT n T)∧Mod (fun x=>x=b) w w':=by
 have c:=hM.n_
 have hl:=hM.lies
 have hle:=hM.le
 go_enter Tryz.func140,Tryz.ntmps140
 go_wp2_with (first
  | (go_at_call 130;refine (ok_any _ b n T hM).mono ?_;rintro e w ⟨rfl,rfl⟩)
  | ((with_reducible refine wpList_loadA (aggWords T) hl ?_ ?_);rfl;go_frame)
  | fail)
 go_loopw [14] (fun c wr=> ∃k:Nat,k≤16∧c= .int .i64 k∧(∀i,i<64*k→T i=true)∧wr=w) (fun c _=>16-(intOf c).toNat)
 case atStart=>exact ⟨0,Nat.zero_le _,rfl,fun i hi=>by omega,rfl⟩
 case round=>
  obtain ⟨k,hk,rfl,hall,rfl⟩:=hrel
  by_cases hlt:k<16
  ·have hlt':(k:Int)<16:=by omega
   have hg:=wordsArr_get T hlt
   have hsz:=wordsArr_size T
   have hx:=wd_not T k
   have hx2:bits .xor .u64 (if IntKind.u64.signed=true then-1 else IntKind.u64.max) (wd T k:Int)=((num (fun j=> !T (64*k+j)) 64:Nat):Int):=hx
   have hlead:=fun w=>lead_any w (fun j=> !T (64*k+j))
   have hfl:=fst_le (fun j=> !T (64*k+j)) 64
   have hfn: ∀j,j<fst (fun j=> !T (64*k+j)) 64→T (64*k+j)=true:=fun j hj=>by simpa using fst_none (f:=fun j=> !T (64*k+j)) hj
   have hfs:fst (fun j=> !T (64*k+j)) 64<64→T (64*k+fst (fun j=> !T (64*k+j)) 64)=false:=fun hj=>by simpa using fst_some (f:=fun j=> !T (64*k+j)) hj
   generalize fst (fun j=> !T (64*k+j)) 64=f at*
   generalize num (fun j=> !T (64*k+j)) 64=x at*
   by_cases hge:n≤64*k+f
   ·have hge':(n:Int)≤(k:Int)*64+f:=by omega
    have hfull:least n T=n:=fst_full fun j hj=>by
     by_cases h1:j<64*k
     ·simp [hall j h1]
     ·have:=hfn (j-64*k) (by omega)
      rw [show 64*k+(j-64*k)=j by omega] at this
      simp [this]
    have HV:=Lib.hid (show takeV n T= .tuple #[.int .i64 (-1), .int .i64 8]∧takeT n T=T by unfold takeV takeT;rw [hfull];simp)
    clear hall hfn hfs hfull
    go_wp2_with (first
     | (go_at_call 187;(first|refine (hlead _).mono ?_|(rw [hx2];refine (hlead _).mono ?_));rintro e w2 ⟨rfl,hw2⟩;obtain rfl:=hw2.symm;clear hw2)
     | ((with_reducible refine wpList_exec rfl (exec_index1 Tryz.underlying129 scalar64 size64 (k:= .i64) (i:=k) ?_ ?_ hlt hg) ?_);rfl;rfl;go_frame)
     | fail)
    go_ret2
    exact ⟨by rw [HV.out.1];rfl,by rw [HV.out.2];exact hM,Mod.refl _ _⟩
   ·by_cases hf:f<64
    ·have hge':((k:Int)*64+f)<(n:Int):=by omega
     have hlt2:((k:Int)*64+f)<((k:Int)+1)*64:=by omega
     have hl0:least n T=64*k+f:=fst_eq (fun j hj=>by
      by_cases h1:j<64*k
      ·simp [hall j h1]
      ·have:=hfn (j-64*k) (by omega)
       rw [show 64*k+(j-64*k)=j by omega] at this
       simp [this]) (by simp [hfs hf]) (by omega)
     have HV:=Lib.hid (show takeV n T= .tuple #[.int .i64 ((k:Int)*64+f), .int .i64 0]∧takeT n T=setB T (64*k+f) true by
      unfold takeV takeT;rw [hl0,if_pos (by omega),if_pos (by omega)]
      refine ⟨?_,rfl⟩
      rw [show ((64*k+f:Nat):Int)=(k:Int)*64+f by omega])
     have hbit: ∀w,Calls Tryz.prog 61 #[.int .i64 ((k:Int)*64+f)] w fun e w'=>e= .returned (.int .u64 ((2 ^ (63-(64*k+f) %64):Nat):Int))∧w'=w:=fun w=>by
      rw [show (k:Int)*64+f=((64*k+f:Nat):Int) by omega];exact bit_any w _
     have hor:=wd_or T (64*k+f)
     rw [show (64*k+f)/64=k by omega] at hor
     have hcell:=hM.w_ (k:=k) (by omega)
     have hfree:=hM.free (o:=1+k)
     have HS:=Lib.hid (show ∀w,MapAt w b n T→MapAt (w.setCell ⟨b,1+k,none⟩ (.int .u64 (wd (setB T (64*k+f) true) k))) b n (setB T (64*k+f) true) from fun w hw=>by
      refine cell_set hw hlt (fun j _ hj=>wd_other T (64*k+f) _ (by omega)) (fun j hj=> ?_)
      rw [setB_ne T _ (by omega)];exact hM.out j hj)
     clear hall hfn hfs hl0
     generalize 2 ^ (63-(64*k+f) %64)=p at*
     generalize wd T k=y at*
     generalize wd (setB T (64*k+f) true) k=z at*
     have hk0:(0:Int)≤(k:Int):=by omega
     have hkn:((k:Nat):Int).toNat=k:=by simp
     go_upto_region 9 with (first
      | (go_at_call 187;(first|refine (hlead _).mono ?_|(rw [hx2];refine (hlead _).mono ?_));rintro e w2 ⟨rfl,hw2⟩;obtain rfl:=hw2.symm;clear hw2)
      | ((with_reducible refine wpList_exec rfl (exec_index1 Tryz.underlying129 scalar64 size64 (k:= .i64) (i:=k) ?_ ?_ hlt hg) ?_);rfl;rfl;go_frame)
      | fail)
     refine wp_region_x (fun w'=>w'.cell? ⟨b,1+k,none⟩=some (.int .u64 y)) [(0,1),(1,1),(2,1),(3,1),(4,1),(5,0),(6,1),(9,1),(10,1),(7,2),(8,1),(11,1),(12,3)] (by kernel_rfl) (by kernel_rfl) (by intro d v c a w h;cases d<;>exact h) ?_
     iterate 5 (refine x_take rfl (fun K hK=> ?_);go_simp;refine hK _ ?_;clear hK K)
     refine x_read rfl hcell (fun w' h=>exec_load1 scalar64 rfl h) ?_
     iterate 3 (refine x_take rfl (fun K hK=> ?_);go_simp;refine hK _ ?_;clear hK K)
     refine x_show' rfl (fun K hK=> ?_)
     go_simp
     refine (hbit _).mono ?_
     rintro e w3 ⟨rfl,hw3⟩
     obtain rfl:=hw3.symm
     clear hw3
     refine hK _ _ hcell ?_
     clear hK K
     iterate 2 (refine x_take rfl (fun K hK=> ?_);go_simp;refine hK _ ?_;clear hK K)
     refine x_skip rfl (exec_store1 scalar64 size64 rfl rfl rfl hcell hM.free) ?_
     refine x_nil ?_
     go_wp2
     go_ret2
     exact ⟨by rw [HV.out.1];rfl,by rw [HV.out.2];exact HS.out _ hM.drew,((Mod.refl _ wr).drewN 1).setCell _ _ (fun _=>rfl)⟩
    ·have hf64:f=64:=by omega
     have hge':((k:Int)*64+f)<(n:Int):=by omega
     have hge2:((k:Int)+1)*64≤((k:Int)*64+f):=by omega
     have HA:=Lib.hid (show ∀i,i<64*(k+1)→T i=true from fun i hi=>by
      by_cases h1:i<64*k
      ·exact hall i h1
      ·have:=hfn (i-64*k) (by omega)
       rwa [show 64*k+(i-64*k)=i by omega] at this)
     clear hall hfn hfs
     go_wp2_with (first
      | (go_at_call 187;(first|refine (hlead _).mono ?_|(rw [hx2];refine (hlead _).mono ?_));rintro e w2 ⟨rfl,hw2⟩;obtain rfl:=hw2.symm;clear hw2)
      | ((with_reducible refine wpList_exec rfl (exec_index1 Tryz.underlying129 scalar64 size64 (k:= .i64) (i:=k) ?_ ?_ hlt hg) ?_);rfl;rfl;go_frame)
      | fail)
     go_roundw
     case rel=>exact ⟨k+1,by omega,by go_num,HA.out,by first|rfl|trivial⟩
     case measure=>simp [intOf];omega
  ·obtain rfl:k=16:=by omega
   have hfull:least n T=n:=fst_full fun j hj=>by simp [hall j (by omega)]
   have HV:=Lib.hid (show takeV n T= .tuple #[.int .i64 (-1), .int .i64 8]∧takeT n T=T by unfold takeV takeT;rw [hfull];simp)
   clear hall hfull
   go_wp2
   go_ret2
   exact ⟨by rw [HV.out.1];rfl,by rw [HV.out.2];exact hM,Mod.refl _ _⟩
end Go.Proofs.YtjdbbnhnbdocbaaGreat.Al
