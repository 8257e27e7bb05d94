import Derived.Test.YtjdbbnhnbdocbaaGreatMgGon42
import Derived.Test.YtjdbbnhnbdocbaaGreatMgGon41
import Derived.Test.YtjdbbnhnbdocbaaGreatMgGon4
namespace Go.Proofs.YtjdbbnhnbdocbaaGreat
open Go.RowKit Go.Tn Go.Tn.Bt Go.Tn.Lp Go.Tn.Dk Go.Tn.Ino Go.Tn.Dr Go.Tn.Fm Go.Tn.Names
theorem ne_mem {l:List Ent} {s:ByteArray} {z:Ent}:z∈l.filter (ne_ s)↔z∈l∧z.name≠s:=by
 rw [List.mem_filter]
 unfold ne_
 rw [Bool.not_eq_true', ←Bool.not_eq_true,nEq_iff]
theorem ne_len (l:List Ent) (s:ByteArray):(l.filter (ne_ s)).length≤l.length:=List.length_filter_le _ _
theorem Rise.filter {l:List Ent} (h:Dr.Rise l) (p:Ent→Bool):Dr.Rise (l.filter p):=List.Pairwise.filter p h
section
variable {M M':Sm} {n:Nat} {f a b:Int×Int} {t u:ByteArray}
inductive RemoveNo (M:Sm) (f:Int×Int) (t:ByteArray):Nat→Prop
 | name:isName (bs t)=false→RemoveNo M f t 9
 | of:isName (bs t)=true→(M.of f 1).2≠0→RemoveNo M f t (M.of f 1).2
 | none:isName (bs t)=true→(M.of f 1).2=0→(∀y∈(M.N (M.of f 1).1).L,y.name≠t)→RemoveNo M f t 11
 | more (y:Ent):isName (bs t)=true→(M.of f 1).2=0→y∈(M.N (M.of f 1).1).L→y.name=t→(M.N y.ino).L≠ []→RemoveNo M f t 13
structure RemoveYes (M:Sm) (f:Int×Int) (t:ByteArray) (M':Sm):Prop where
 name:isName (bs t)=true
 of:(M.of f 1).2=0
 N: ∃y,y∈(M.N (M.of f 1).1).L∧y.name=t∧(M.N y.ino).L= []∧M'.N=Fm.upd (Fm.upd M.N y.ino (Nd.no (M.N y.ino).gen)) (M.of f 1).1 {M.N (M.of f 1).1 with L:=(M.N (M.of f 1).1).L.filter (ne_ t),ver:=(M.N (M.of f 1).1).ver+1}
 rcd:M'.rcd=M.rcd
structure RenAsk (M:Sm) (a:Int×Int) (t:ByteArray) (b:Int×Int) (u:ByteArray) (x:Ent):Prop where
 name:isName (bs t)=true∧isName (bs u)=true
 a0:(M.of a 1).2=0
 b0:(M.of b 1).2=0
 xin:x∈(M.N (M.of a 1).1).L
 xt:x.name=t
def RenWas (M:Sm) (b:Int×Int) (u:ByteArray) (x:Ent) (N0:Nat→Nd):Prop:=
 (∀y∈(M.N (M.of b 1).1).L,y.name≠u)∧N0=M.N∨ ∃y,y∈(M.N (M.of b 1).1).L∧y.name=u∧y.kind=x.kind∧(M.N y.ino).L= []∧N0=Fm.upd M.N y.ino (Nd.no (M.N y.ino).gen)
def renFrom (M:Sm) (a:Int×Int) (t:ByteArray):List Ent:=(M.N (M.of a 1).1).L.filter (ne_ t)
def renInto (M:Sm) (a:Int×Int) (t:ByteArray) (b:Int×Int):List Ent:=if (M.of a 1).1=(M.of b 1).1 then renFrom M a t else (M.N (M.of b 1).1).L
def renN1 (M:Sm) (a:Int×Int) (t:ByteArray) (b:Int×Int) (N0:Nat→Nd):Nat→Nd:=if (M.of a 1).1=(M.of b 1).1 then N0 else Fm.upd N0 (M.of a 1).1 {M.N (M.of a 1).1 with L:=renFrom M a t,ver:=(M.N (M.of a 1).1).ver+1}
inductive RenameNo (M:Sm) (n:Nat) (a:Int×Int) (t:ByteArray) (b:Int×Int) (u:ByteArray):Nat→Prop
 | name:isName (bs t)=false∨isName (bs u)=false→RenameNo M n a t b u 9
 | a:isName (bs t)=true→isName (bs u)=true→(M.of a 1).2≠0→RenameNo M n a t b u (M.of a 1).2
 | b:isName (bs t)=true→isName (bs u)=true→(M.of a 1).2=0→(M.of b 1).2≠0→RenameNo M n a t b u (M.of b 1).2
 | none:isName (bs t)=true→isName (bs u)=true→(M.of a 1).2=0→(M.of b 1).2=0→(∀y∈(M.N (M.of a 1).1).L,y.name≠t)→RenameNo M n a t b u 11
 | under (x:Ent):RenAsk M a t b u x→¬(a=b∧t=u)→x.kind=1→Reach M.N x.ino (M.of b 1).1→RenameNo M n a t b u 2
 | kind (x y:Ent):RenAsk M a t b u x→¬(a=b∧t=u)→¬ Reach M.N x.ino (M.of b 1).1→y∈(M.N (M.of b 1).1).L→y.name=u→y.kind≠x.kind→RenameNo M n a t b u 12
 | more (x y:Ent):RenAsk M a t b u x→¬(a=b∧t=u)→¬ Reach M.N x.ino (M.of b 1).1→y∈(M.N (M.of b 1).1).L→y.name=u→y.kind=x.kind→(M.N y.ino).L≠ []→RenameNo M n a t b u 13
 | many (x:Ent) (N0:Nat→Nd) (R:List Ent):RenAsk M a t b u x→¬(a=b∧t=u)→¬ Reach M.N x.ino (M.of b 1).1→RenWas M b u x N0→PutsE (renInto M a t b) ⟨u,x.ino,x.gen,x.kind⟩ R→24<R.length→RenameNo M n a t b u 8
 | full (x:Ent) (N0:Nat→Nd) (R:List Ent):RenAsk M a t b u x→¬(a=b∧t=u)→¬ Reach M.N x.ino (M.of b 1).1→RenWas M b u x N0→PutsE (renInto M a t b) ⟨u,x.ino,x.gen,x.kind⟩ R→R.length≤24→Stuck n (fun j k=>(renN1 M a t b N0 j).blk k) (M.of b 1).1 (dirB R)→RenameNo M n a t b u 8
structure RenameYes (M:Sm) (a:Int×Int) (t:ByteArray) (b:Int×Int) (u:ByteArray) (M':Sm):Prop where
 N: ∃x N0 R,RenAsk M a t b u x∧¬(a=b∧t=u)∧¬ Reach M.N x.ino (M.of b 1).1∧RenWas M b u x N0∧PutsE (renInto M a t b) ⟨u,x.ino,x.gen,x.kind⟩ R∧R.length≤24∧M'.N=Fm.upd (renN1 M a t b N0) (M.of b 1).1 {M.N (M.of b 1).1 with L:=R,ver:=(M.N (M.of b 1).1).ver+1}
 rcd:M'.rcd=M.rcd
structure Goes (N N':Nat→Nd):Prop where
 tree:Tree N'
 later:Later N N'
theorem rise_of {x:Nd} (h:NdOk x):Dr.Rise x.L:=by
 rcases h.knd with hk|hk|hk
 ·rw [hk.2.2.1];exact .nil
 ·exact hk.2.2.1
 ·rw [hk.2.1];exact .nil
theorem Reach.mono {N N':Nat→Nd} (hL: ∀q z,z∈(N q).L→z∈(N' q).L) {i j:Nat} (h:Reach N i j):Reach N' i j:=by
 induction h with
 | z i=>exact .z i
 | s hy _ ih=>exact .s (hL _ _ hy) ih
theorem TruncYes.goes {v:Nat} (hT:Tree M.N) (h:TruncYes M f v M'):Goes M.N M'.N:=by
 have hN:=h.N
 have e: ∀j,(M'.N j).kind=(M.N j).kind∧(M'.N j).gen=(M.N j).gen∧(M'.N j).L=(M.N j).L:=fun j=>by
  rw [hN]
  by_cases hj:j=(M.of f 2).1
  ·rw [hj,Fm.upd_at]
   exact ⟨rfl,rfl,rfl⟩
  ·rw [Fm.upd_ne _ _ hj]
   exact ⟨rfl,rfl,rfl⟩
 exact ⟨hT.congr (fun j=>(e j).1) (fun j=>(e j).2.1) (fun j z=>by rw [(e j).2.2]),fun j=>⟨Nat.le_of_eq (e j).2.1.symm,fun _ h0=>(e j).1.trans h0⟩⟩
theorem WriteYes.goes {k:Int} {v:Nat} (hT:Tree M.N) (h:WriteYes M f k t v M'):Goes M.N M'.N:=by
 have hN:=h.N
 have e: ∀j,(M'.N j).kind=(M.N j).kind∧(M'.N j).gen=(M.N j).gen∧(M'.N j).L=(M.N j).L:=fun j=>by
  rw [hN]
  by_cases hj:j=(M.of f 2).1
  ·rw [hj,Fm.upd_at]
   exact ⟨rfl,rfl,rfl⟩
  ·rw [Fm.upd_ne _ _ hj]
   exact ⟨rfl,rfl,rfl⟩
 exact ⟨hT.congr (fun j=>(e j).1) (fun j=>(e j).2.1) (fun j z=>by rw [(e j).2.2]),fun j=>⟨Nat.le_of_eq (e j).2.1.symm,fun _ h0=>(e j).1.trans h0⟩⟩
theorem CreateYes.goes {kind:Int} {i gn:Nat} (hT:Tree M.N) (h:CreateYes M f t kind i gn M'):Goes M.N M'.N:=by
 obtain ⟨R,hR,hN⟩:=h.N
 obtain ⟨h1,h2,h3,h4⟩:=h.fresh
 have hof:=of_0 h.of
 obtain ⟨j,hj⟩: ∃j,(M.of f 1).1=j:=⟨_,rfl⟩
 have hnew:=h.new
 rw [hj] at hof hR hN hnew
 have hij:i≠j:=fun e=>by
  have:=h3.1
  rw [e,hof.2] at this
  cases this
 have hi1:i≠1:=fun e=>by
  have:=h3.1
  rw [e,hT.root.1] at this
  cases this
 have hgn:=h.gen
 have hkd:kind.toNat=1∨kind.toNat=2:=by have:=h.knd;omega
 refine ⟨hT.add (k:=j) (e:=⟨t,i,gn,kind.toNat⟩) ⟨by show 2≤i;omega,h2⟩ h3.1 hof.2 hkd (fun q=> ?_) (fun q=> ?_) (fun q z=> ?_),fun q=> ?_⟩
 ·rw [hN]
  show _=if q=i then kind.toNat else _
  by_cases hq:q=i
  ·rw [if_pos hq,hq,Fm.upd_at]
   rfl
  ·rw [if_neg hq,Fm.upd_ne _ _ hq]
   by_cases hq2:q=j
   ·rw [hq2,Fm.upd_at]
   ·rw [Fm.upd_ne _ _ hq2]
 ·rw [hN]
  show _=if q=i then gn else _
  by_cases hq:q=i
  ·rw [if_pos hq,hq,Fm.upd_at]
   rfl
  ·rw [if_neg hq,Fm.upd_ne _ _ hq]
   by_cases hq2:q=j
   ·rw [hq2,Fm.upd_at]
   ·rw [Fm.upd_ne _ _ hq2]
 ·rw [hN]
  by_cases hq:q=i
  ·rw [hq,Fm.upd_at]
   constructor
   ·intro hz
    cases hz
   ·rintro (hz|⟨e, -⟩)
    ·have:=hT.dir i z hz
     rw [h3.1] at this
     cases this
    ·exact absurd e hij
  ·rw [Fm.upd_ne _ _ hq]
   by_cases hq2:q=j
   ·rw [hq2,Fm.upd_at]
    show z∈R↔_
    rw [hR.mem]
    constructor
    ·rintro (e|⟨e, -⟩)
     ·exact .inr ⟨rfl,e⟩
     ·exact .inl e
    ·rintro (e|⟨-,e⟩)
     ·exact .inr ⟨e,hnew z e⟩
     ·exact .inl e
   ·rw [Fm.upd_ne _ _ hq2]
    constructor
    ·exact .inl
    ·rintro (e|⟨e, -⟩)
     ·exact e
     ·exact absurd e hq2
 ·rw [hN]
  by_cases hq:q=i
  ·rw [hq,Fm.upd_at]
   exact ⟨by show _≤gn;omega,fun e=>by
    have e:gn=(M.N i).gen:=e
    omega⟩
  ·rw [Fm.upd_ne _ _ hq]
   by_cases hq2:q=j
   ·rw [hq2,Fm.upd_at]
    exact ⟨Nat.le_refl _,fun _ h=>h⟩
   ·rw [Fm.upd_ne _ _ hq2]
    exact ⟨Nat.le_refl _,fun _ h=>h⟩
theorem RemoveYes.goes (hT:Tree M.N) (hnd: ∀j,NdOk (M.N j)) (h:RemoveYes M f t M'):Goes M.N M'.N:=by
 obtain ⟨y,hy,hyt,hy0,hN⟩:=h.N
 have hof:=of_0 h.of
 obtain ⟨j,hj⟩: ∃j,(M.of f 1).1=j:=⟨_,rfl⟩
 rw [hj] at hof hy hN
 have hij:=hT.below hy
 refine ⟨hT.drop (k:=j) hy hy0 (fun q=> ?_) (fun q=> ?_) (fun q z=> ?_),fun q=> ?_⟩
 ·rw [hN]
  by_cases hq2:q=j
  ·rw [hq2,Fm.upd_at,if_neg (fun e=>hij e.symm)]
  ·rw [Fm.upd_ne _ _ hq2]
   by_cases hq:q=y.ino
   ·rw [if_pos hq,hq,Fm.upd_at]
    rfl
   ·rw [if_neg hq,Fm.upd_ne _ _ hq]
 ·rw [hN]
  by_cases hq2:q=j
  ·rw [hq2,Fm.upd_at]
  ·rw [Fm.upd_ne _ _ hq2]
   by_cases hq:q=y.ino
   ·rw [hq,Fm.upd_at]
    rfl
   ·rw [Fm.upd_ne _ _ hq]
 ·rw [hN]
  by_cases hq2:q=j
  ·rw [hq2,Fm.upd_at]
   show z∈(M.N j).L.filter (ne_ t)↔_
   rw [ne_mem]
   constructor
   ·rintro ⟨h1,h2⟩
    exact ⟨h1,fun e=>h2 (by rw [e.2,hyt])⟩
   ·rintro ⟨h1,h2⟩
    exact ⟨h1,fun e=>h2 ⟨rfl,(rise_of (hnd j)).inj h1 hy (by rw [e,hyt])⟩⟩
  ·rw [Fm.upd_ne _ _ hq2]
   by_cases hq:q=y.ino
   ·rw [hq,Fm.upd_at,hy0]
    constructor
    ·intro hz
     cases hz
    ·intro hz
     cases hz.1
   ·rw [Fm.upd_ne _ _ hq]
    exact ⟨fun hz=>⟨hz,fun e=>hq2 e.1⟩,fun hz=>hz.1⟩
 ·rw [hN]
  by_cases hq2:q=j
  ·rw [hq2,Fm.upd_at]
   exact ⟨Nat.le_refl _,fun _ h=>h⟩
  ·rw [Fm.upd_ne _ _ hq2]
   by_cases hq:q=y.ino
   ·rw [hq,Fm.upd_at]
    exact ⟨Nat.le_refl _,fun _ _=>rfl⟩
   ·rw [Fm.upd_ne _ _ hq]
    exact ⟨Nat.le_refl _,fun _ h=>h⟩
theorem RenAsk.apart (hT:Tree M.N) {x y:Ent} (h:RenAsk M a t b u x) (hs:¬ (a=b∧t=u)) (hy:y∈(M.N (M.of b 1).1).L) (hyu:y.name=u) (hy0:(M.N y.ino).L= []):y.ino≠(M.of a 1).1∧y.ino≠(M.of b 1).1∧y.ino≠x.ino:=by
 refine ⟨fun e=> ?_,hT.below hy,fun e=> ?_⟩
 ·have:=h.xin
  rw [←e,hy0] at this
  cases this
 ·obtain ⟨h1,h2⟩:=hT.one _ _ y x hy h.xin e
  refine hs ⟨?_,?_⟩
  ·have k1:=of_0 h.a0
   have k2:=of_0 h.b0
   rw [←h1] at k1
   exact (there_some k1.1).2.2.1.trans (there_some k2.1).2.2.1.symm
  ·rw [←h.xt, ←h2,hyu]
theorem RenameYes.goes (hT:Tree M.N) (hnd: ∀j,NdOk (M.N j)) (h:RenameYes M a t b u M'):Goes M.N M'.N:=by
 obtain ⟨x,N0,R,hA,hs,hr,hW,hR,h24,hN⟩:=h.N
 have ha:=of_0 hA.a0
 have hb:=of_0 hA.b0
 have hsame:(M.of a 1).1=(M.of b 1).1→t≠u:=fun e e2=>hs ⟨by
  have k1:=(there_some ha.1).2.2.1
  have k2:=(there_some hb.1).2.2.1
  rw [k1,k2,e],e2⟩
 have happ:=fun (y:Ent) (hy:y∈(M.N (M.of b 1).1).L) (hyu:y.name=u) (hy0:(M.N y.ino).L= [])=>hA.apart hT hs hy hyu hy0
 have hx:=hA.xin
 have hxt:=hA.xt
 unfold renInto renFrom at hR
 unfold renN1 renFrom at hN
 unfold RenWas at hW
 generalize (M.of a 1).1=i at*
 generalize (M.of b 1).1=k at*
 -- what is kept where what is replaced is gone
 have hW0: ∃W:Nat→Nd,Tree W∧(∀q,(W q).kind=(N0 q).kind)∧(∀q,(W q).gen=(M.N q).gen)∧(∀q,(N0 q).gen=(M.N q).gen)∧(∀q,(M.N q).kind=0→(N0 q).kind=0)∧(∀q z,z∈(W q).L↔z∈(M.N q).L∧¬(q=k∧z.name=u))∧(∀q,q≠i→q≠k→ ∀z,z∈(N0 q).L↔z∈(M.N q).L)∧(N0 i=M.N i)∧N0 k=M.N k:=by
  rcases hW with ⟨hno,rfl⟩|⟨y,hy,hyu,hyk,hy0,rfl⟩
  ·refine ⟨M.N,hT,fun _=>rfl,fun _=>rfl,fun _=>rfl,fun _ h=>h,fun q z=>⟨fun hz=>⟨hz,fun e=>hno z (by rw [←e.1];exact hz) e.2⟩,fun hz=>hz.1⟩,fun _ _ _ _=>Iff.rfl,rfl,rfl⟩
  ·obtain ⟨p1,p2,p3⟩:=happ y hy hyu hy0
   have hkd: ∀q,((Fm.upd M.N y.ino (Nd.no (M.N y.ino).gen)) q).kind=if q=y.ino then 0 else (M.N q).kind:=fun q=>by
    by_cases hq:q=y.ino
    ·rw [if_pos hq,hq,Fm.upd_at]
     rfl
    ·rw [if_neg hq,Fm.upd_ne _ _ hq]
   have hgn: ∀q,((Fm.upd M.N y.ino (Nd.no (M.N y.ino).gen)) q).gen=(M.N q).gen:=fun q=>by
    by_cases hq:q=y.ino
    ·rw [hq,Fm.upd_at]
     rfl
    ·rw [Fm.upd_ne _ _ hq]
   have hLL: ∀q z,z∈((Fm.upd M.N y.ino (Nd.no (M.N y.ino).gen)) q).L↔z∈(M.N q).L:=fun q z=>by
    by_cases hq:q=y.ino
    ·rw [hq,Fm.upd_at,hy0]
     exact ⟨fun h=>(by cases h),fun h=>(by cases h)⟩
    ·rw [Fm.upd_ne _ _ hq]
   have hWL: ∀q z,z∈({(Fm.upd M.N y.ino (Nd.no (M.N y.ino).gen)) q with L:=if q=k then (M.N q).L.filter (ne_ u) else (M.N q).L}:Nd).L↔z∈(M.N q).L∧¬(q=k∧z.name=u):=fun q z=>by
    show z∈(if q=k then (M.N q).L.filter (ne_ u) else (M.N q).L)↔_
    by_cases hq:q=k
    ·rw [if_pos hq,ne_mem]
     exact ⟨fun h=>⟨h.1,fun e=>h.2 e.2⟩,fun h=>⟨h.1,fun e=>h.2 ⟨hq,e⟩⟩⟩
    ·rw [if_neg hq]
     exact ⟨fun h=>⟨h,fun e=>hq e.1⟩,fun h=>h.1⟩
   refine ⟨fun q=>{(Fm.upd M.N y.ino (Nd.no (M.N y.ino).gen)) q with L:=if q=k then (M.N q).L.filter (ne_ u) else (M.N q).L},hT.drop (k:=k) hy hy0 hkd hgn (fun q z=> ?_),fun q=>rfl,hgn,hgn,fun q h0=> ?_,hWL,fun q _ _ z=>hLL q z,Fm.upd_ne _ _ (fun e=>p1 e.symm),Fm.upd_ne _ _ (fun e=>p2 e.symm)⟩
   ·rw [hWL]
    constructor
    ·rintro ⟨h1,h2⟩
     exact ⟨h1,fun e=>h2 ⟨e.1,by rw [e.2,hyu]⟩⟩
    ·rintro ⟨h1,h2⟩
     exact ⟨h1,fun e=>h2 ⟨e.1,(rise_of (hnd k)).inj (by rw [←e.1];exact h1) hy (by rw [e.2,hyu])⟩⟩
   ·rw [hkd]
    split
    ·rfl
    ·exact h0
 obtain ⟨W,hTW,hWk,hWg,hNg,hN0,hWL,hNL,hNi,hNk⟩:=hW0
 have hxW:x∈(W i).L:=(hWL _ _).2 ⟨hx,fun e=>hsame e.1 (by rw [←hxt,e.2])⟩
 have hrW:¬ Reach W x.ino k:=fun hc=>hr (hc.mono fun q z hz=>((hWL q z).1 hz).1)
 have hKi:(W k).kind=1:=by rw [hWk,hNk,hb.2]
 have hk': ∀q,(M'.N q).kind=(N0 q).kind:=fun q=>by
  rw [hN]
  by_cases hq:q=k
  ·rw [hq,Fm.upd_at,hNk]
  ·rw [Fm.upd_ne _ _ hq]
   split
   ·rfl
   ·by_cases hq2:q=i
    ·rw [hq2,Fm.upd_at,hNi]
    ·rw [Fm.upd_ne _ _ hq2]
 have hg': ∀q,(M'.N q).gen=(M.N q).gen:=fun q=>by
  rw [hN]
  by_cases hq:q=k
  ·rw [hq,Fm.upd_at]
  ·rw [Fm.upd_ne _ _ hq]
   split
   ·exact hNg q
   ·by_cases hq2:q=i
    ·rw [hq2,Fm.upd_at]
    ·rw [Fm.upd_ne _ _ hq2]
     exact hNg q
 refine ⟨hTW.move (k:=k) (e:=⟨u,x.ino,x.gen,x.kind⟩) hxW hKi hrW ⟨rfl,rfl,rfl⟩ (fun q=>by rw [hk',hWk]) (fun q=>by rw [hg',hWg]) (fun q z=> ?_),fun q=>⟨Nat.le_of_eq (hg' q).symm,fun _ h0=>by rw [hk'];exact hN0 q h0⟩⟩
 rw [hN,hWL]
 have hxi: ∀z,z∈(M.N i).L→(z.name≠t↔z≠x):=fun z hz=>⟨fun h1 e=>h1 (by rw [e,hxt]),fun h1 e=>h1 ((rise_of (hnd i)).inj hz hx (by rw [e,hxt]))⟩
 by_cases hq:q=k
 ·rw [hq,Fm.upd_at]
  show z∈R↔_
  rw [hR.mem]
  show z=_∨z∈_∧z.name≠u↔_
  by_cases hik:i=k
  ·subst hik
   rw [if_pos rfl,ne_mem]
   constructor
   ·rintro (e|⟨⟨h1,h2⟩,h3⟩)
    ·exact .inr ⟨rfl,e⟩
    ·exact .inl ⟨⟨h1,fun e=>h3 e.2⟩,fun e=>(hxi z h1).1 h2 e.2⟩
   ·rintro (⟨⟨h1,h2⟩,h3⟩|⟨-,e⟩)
    ·exact .inr ⟨⟨h1,(hxi z h1).2 fun e=>h3 ⟨rfl,e⟩⟩,fun e=>h2 ⟨rfl,e⟩⟩
    ·exact .inl e
  ·rw [if_neg hik]
   constructor
   ·rintro (e|⟨h1,h3⟩)
    ·exact .inr ⟨rfl,e⟩
    ·exact .inl ⟨⟨h1,fun e=>h3 e.2⟩,fun e=>hik e.1.symm⟩
   ·rintro (⟨⟨h1,h2⟩, -⟩|⟨-,e⟩)
    ·exact .inr ⟨h1,fun e=>h2 ⟨rfl,e⟩⟩
    ·exact .inl e
 ·rw [Fm.upd_ne _ _ hq]
  by_cases hik:i=k
  ·rw [if_pos hik,hNL q (fun e=>hq (e.trans hik)) hq]
   exact ⟨fun h=> .inl ⟨⟨h,fun e=>hq e.1⟩,fun e=>hq (e.1.trans hik)⟩,fun h=>h.elim (fun h=>h.1.1) fun e=>absurd e.1 hq⟩
  ·rw [if_neg hik]
   by_cases hq2:q=i
   ·rw [hq2,Fm.upd_at]
    show z∈(M.N i).L.filter (ne_ t)↔_
    rw [ne_mem]
    exact ⟨fun h=> .inl ⟨⟨h.1,fun e=>hik e.1⟩,fun e=>(hxi z h.1).1 h.2 e.2⟩,fun h=>h.elim (fun h=>⟨h.1.1,(hxi z h.1.1).2 fun e=>h.2 ⟨rfl,e⟩⟩) fun e=>absurd e.1 hik⟩
   ·rw [Fm.upd_ne _ _ hq2,hNL q hq2 hq]
    exact ⟨fun h=> .inl ⟨⟨h,fun e=>hq e.1⟩,fun e=>hq2 e.1⟩,fun h=>h.elim (fun h=>h.1.1) fun e=>absurd e.1 hq⟩
end
theorem oper_execG {P:Program} {o:Oper} {a:Act} {w w2:World} {v:Value} {K:Act→World→Prop} {Q:Exit→Act→World→Prop} (hr:(execOp a.eval o).run P w= .ok (.value v) w2) (h:K (a.put o.dst v) w2):o.wp P a w K Q:=by
 simp only [Oper.wp,hr,Oper.upon]
 exact h
section
variable {w w':World} {F FD:Nat→Prop} {s g p:Nat} {l:Lg} {d:Dsk} {M:Sm}
theorem of_ent (hT:Tree M.N) {k:Nat} {x:Ent} (hx:x∈(M.N k).L):M.there ((x.ino:Int),(x.gen:Int))=some x.ino∧(x.kind=1→M.of ((x.ino:Int),(x.gen:Int)) 1=(x.ino,0)):=by
 obtain ⟨h1,h2,h3,h4,h5⟩:=hT.ent k x hx
 refine ⟨?_,fun hk=>of_at (by omega) (by omega) h5 (h4.trans hk) (by decide)⟩
 unfold Sm.there
 simp only [Int.toNat_natCast]
 rw [if_pos ⟨by omega,by omega,by rw [h4];omega,by rw [h5]⟩]
theorem lies_file {w:World} {b o:Nat} {x:Ent} (h:Lies w b o (entC x)):Lies w b (o+1) #[.int .i64 (x.ino:Nat), .int .i64 (x.gen:Nat)]:=fun j hj=>by
 have hj2:j<2:=hj
 match j,hj2 with
 | 0,_=>exact h 1 (by show 1<4;decide)
 | 1,_=>exact h 2 (by show 2<4;decide)
theorem no_list (h: ∀j,NdOk (M.N j)) {j:Nat} (hk:(M.N j).kind≠1):(M.N j).L= []:=by
 rcases (h j).knd with h1|h1|h1
 ·exact h1.2.2.1
 ·exact absurd h1.1 hk
 ·exact h1.2.1
set_option maxRecDepth 20000 in
set_option maxHeartbeats 4000000 in
theorem ffull_any (h:SAt w F FD s g p l d M) (hT:Tree M.N) {k:Nat} {x:Ent} (hx:x∈(M.N k).L):Calls Tryz.prog 74 #[.pointer (some ⟨s,0,none⟩), .agg (entC x)] w
  fun e w'=>e= .returned (.tuple #[.bool (decide ((M.N x.ino).L≠ [])), .int .i64 0])∧Below w.heap.size w w':=by
 obtain ⟨w1,hw1⟩: ∃w1,w.alloc (.cells (entC x) 64)=w1:=⟨_,rfl⟩
 have hb1:Below w.heap.size w w1:=by rw [←hw1];exact (Below.refl _ _).alloc (Nat.le_refl _) _
 have hX1:w1.heap[w.heap.size]?=some (.cells (entC x) 64 (0,0)):=by rw [←hw1];exact heap_alloc_at
 have q2:w1.cell? ⟨w.heap.size,3,none⟩=some (.int .i64 (x.kind:Nat)):=cell_of hX1 rfl
 have hLF:=lies_file (lies_of hX1)
 have hagf:=aggFl (x.ino:Int) (x.gen:Int)
 have hee:=hT.ent k x hx
 have hoe:=of_ent hT hx
 have hli:=flistE_any (h.below hb1) ((x.ino:Int),(x.gen:Int))
 have hnl:=fun (hk:(M.N x.ino).kind≠1)=>no_list h.rep.nd hk
 have HB:=Lib.hid hb1
 clear h hb1 hX1
 by_cases hk:x.kind=1
 ·have hk1:((x.kind:Int) !=1)=false:=by rw [hk];rfl
  simp only [ListR,hoe.2 hk] at hli
  have hli:Calls Tryz.prog 19 #[.pointer (some ⟨s,0,none⟩), .agg #[.int .i64 (x.ino:Int), .int .i64 (x.gen:Int)]] w1 fun e w'=>(∃v,e= .returned (.tuple #[v, .int .i64 0])∧LOut enEn 4 64 w1.heap.size w' v (M.N x.ino).L)∧Below w1.heap.size w1 w':=hli
  clear hee hoe hnl hk
  go_enter Tryz.func74,Tryz.ntmps74
  go_upto_region 1 with fail
  simp only [hw1] at*
  clear hw1
  go_wp2_with (first
   | ((with_reducible refine wpList_loadA hagf hLF ?_ ?_);rfl;go_frame)
   | fail)
  refine hli.mono ?_
  rintro e w2 ⟨⟨v,rfl,hO⟩,hb2⟩
  obtain ⟨ao,cap,rfl, -⟩:=hO.sl elEn.len
  have HB2:=Lib.hid (HB.out.trans (hb2.mono HB.out.size))
  have hd:decide (0<(M.N x.ino).L.length)=decide ((M.N x.ino).L≠ []):=by
   cases (M.N x.ino).L with
   | nil=>rfl
   | cons a t=>simp
  obtain ⟨r,hr⟩: ∃r,decide ((M.N x.ino).L≠ [])=r:=⟨_,rfl⟩
  rw [hr] at hd
  have HR:=Lib.hid hr
  clear hr
  generalize (M.N x.ino).L.length=q at*
  clear hli hO hb2 hLF
  go_wp2
  go_ret2
  rw [HR.out]
  exact ⟨rfl,HB2.out⟩
 ·have hk1:((x.kind:Int) !=1)=true:=by simp;omega
  have hz:decide ((M.N x.ino).L≠ [])=false:=by rw [hnl (by omega)];rfl
  rw [hz]
  clear hee hoe hnl hk hli hz
  go_enter Tryz.func74,Tryz.ntmps74
  go_upto_region 1 with fail
  simp only [hw1] at*
  clear hw1
  go_wp2
  go_ret2
  exact ⟨rfl,HB.out⟩
def retE (c:Nat):Ending:= .returned (.int .i64 (c:Nat))
theorem not_stuck {n:Nat} {N:Nat→Nd} {j:Nat} {L:List Ent} (hk:(N j).kind=1) (hl:L.length≤(N j).L.length):¬ Stuck n (fun j k=>(N j).blk k) j (dirB L):=by
 rintro ⟨i,T1,V1,P1,hi,hm,h0, -⟩
 refine (hm.has j i 0 h0).2 ?_ rfl
 rw [Fm.upd_at]
 unfold firstW
 rw [if_neg (Nat.lt_irrefl i)]
 show (N j).blk i≠none
 unfold Nd.blk
 rw [if_pos hk,ne_eq,List.getElem?_eq_none_iff]
 rw [dirB_len] at hi ⊢
 omega
end
section
variable {w w':World} {F FD:Nat→Prop} {s g p:Nat} {l:Lg} {d:Dsk} {M:Sm}
theorem remove_rep {n i j e2:Nat} {V:Nat→List Nat} {T1 T2:Nat→Bool} {H1 H2:Nat→Option (List Nat)} {b1 b2:List Nat} {t:ByteArray} (h:Rep n V M) (hj:1≤j∧j<41) (hk:(M.N j).kind=1) (hi:1≤i∧i<41) (hij:i≠j) (hv:(M.N j).ver<1099511627775)
  (h1:EmptyTo n (takenP M.P) (fun _=>none) (M.P i) 8 T1 H1 b1) (h2:SetTo n T1 (putH H1 (1+i) (Ino.free (M.N i).gen).sec) 0 (M.P j) (dirB ((M.N j).L.filter (ne_ t))) 8 T2 H2 e2 b2):
  e2=0∧ ∃M':Sm,M'.N=Fm.upd (Fm.upd M.N i (Nd.no (M.N i).gen)) j {M.N j with L:=(M.N j).L.filter (ne_ t),ver:=(M.N j).ver+1}∧M'.rcd=M.rcd∧
   Rep n (ov (putH (putH H2 (1+j) (Ino.sec ⟨1,(M.N j).gen,(M.N j).ver+1,b2⟩)) 1 (mapSec T2)) V) M'∧ChOk n (putH H2 (1+j) (Ino.sec ⟨1,(M.N j).gen,(M.N j).ver+1,b2⟩)) 14:=by
 have c1:=(Chs.start h).free h.n1 hi h1
 have eN:(Fm.upd M.N i (Nd.no (M.N i).gen)) j=M.N j:=Fm.upd_ne _ _ (fun e=>hij e.symm)
 have eP:(Fm.upd M.P i b1) j=M.P j:=Fm.upd_ne _ _ (fun e=>hij e.symm)
 have hok:(∀e∈(M.N j).L,Ent.ok e)∧(M.N j).L.length≤24:=by
  rcases (h.nd j).knd with k|k|k
  ·omega
  ·exact ⟨k.2.1,k.2.2.2.1⟩
  ·omega
 have c2:=c1.dir (L:=(M.N j).L.filter (ne_ t)) h.n1 hj (by rw [eN];exact hk) (fun e he=>hok.1 e (ne_mem.1 he).1) ((rise_of (h.nd j)).filter _) (Nat.le_trans (ne_len _ _) hok.2) (by rw [eN];exact hv) (by rw [eP];exact h2)
 rw [eN] at c2
 rcases c2 with ⟨he,c2⟩|⟨-,hst⟩
 ·exact ⟨he,⟨_,_,M.rcd⟩,rfl,rfl,c2.end_ h,c2.ck.mono (by decide)⟩
 ·exact absurd hst (not_stuck (by rw [eN];exact hk) (by rw [eN];exact ne_len _ _))
set_option maxRecDepth 20000 in
set_option maxHeartbeats 8000000 in
theorem fremove_any (h:SAt w F FD s g p l d M) (hT:Tree M.N) (hQ:d.Q.length≤999900000) (hchk:(l.check d).2.2=0→(l.check d).1.ok (l.check d).2.1) (hv: ∀j,(M.N j).ver<1099511627775) (f:Int×Int) (t:ByteArray):
  Calls Tryz.prog 26 #[.pointer (some ⟨s,0,none⟩), .agg #[.int .i64 f.1, .int .i64 f.2], .string t] w
  fun e w'=>ChgR w F FD s g p l d (RemoveNo M f t) (RemoveYes M f t) retE e w':=by
 obtain ⟨w1,hw1⟩: ∃w1,w.alloc (.cells #[.int .i64 f.1, .int .i64 f.2] 33)=w1:=⟨_,rfl⟩
 have hb1:Below w.heap.size w w1:=by rw [←hw1];exact (Below.refl _ _).alloc (Nat.le_refl _) _
 have hX1:w1.heap[w.heap.size]?=some (.cells #[.int .i64 f.1, .int .i64 f.2] 33 (0,0)):=by rw [←hw1];exact heap_alloc_at
 have h1:=h.below hb1
 have hagf:=aggFl f.1 f.2
 have hokc:=fsok_any h1.fs
 have hck:=ncheck_any w1 t
 have HB:=Lib.hid hb1
 have HH:=Lib.hid h
 have H1:=Lib.hid h1
 have HF1:=Lib.hid hX1
 have HQ:=Lib.hid hQ
 have HCHK:=Lib.hid hchk
 have HV:=Lib.hid hv
 have HT:=Lib.hid hT
 clear h hb1 hX1 h1 hQ hchk hv hT
 go_enter Tryz.func26,Tryz.ntmps26
 go_upto_region 1 with fail
 simp only [hw1] at*
 clear hw1
 go_upto_region 4 with (first
  | (go_at_call 71;refine hokc.mono ?_;rintro e wt ⟨rfl,hw⟩;obtain rfl:=hw.symm;clear hw)
  | (go_at_call 72;refine hck.mono ?_;rintro e w3 ⟨rfl,hb3⟩;have HB3a:=Lib.hid hb3;clear hb3 hck)
  | fail)
 have hb3:=HB3a.out
 clear hokc
 have hF3:=(hb3.block _ (lt_of_block HF1.out)).trans HF1.out
 have H3:=Lib.hid (H1.out.below hb3)
 have HF3:=Lib.hid hF3
 have HB3:=Lib.hid (HB.out.trans (hb3.mono HB.out.size))
 clear hb3 hF3
 cases hn:isName (bs t) with
 | false=>
  rw [errOf_no hn]
  go_wp2
  go_ret
  exact .inl ⟨9,by decide, .name hn,rfl,HB3.out⟩
 | true=>
  rw [errOf_yes hn]
  have HN:=Lib.hid hn
  have hfi:=ffind_any H3.out f t
  have hLF3:Lies w3 w.heap.size 0 #[.int .i64 f.1, .int .i64 f.2]:=lies_of HF3.out
  clear hn
  go_wp2_with (first
   | ((with_reducible refine wpList_loadA hagf hLF3 ?_ ?_);rfl;go_frame)
   | fail)
  refine hfi.mono ?_
  rintro e w4 ⟨⟨v,x,c,rfl,hO,hC⟩,hb4⟩
  obtain ⟨av,cv,hvv, -, -, -⟩:=id (hO.sl elEn.len)
  subst hvv
  have hagx:=aggEn x
  have honex:=oneEn x
  have hb4':=HB3.out.trans (hb4.mono HB3.out.size)
  obtain ⟨w5,hw5⟩: ∃w5,w4.alloc (.cells (entC x) 64)=w5:=⟨_,rfl⟩
  have hb5:Below w4.heap.size w4 w5:=by rw [←hw5];exact (Below.refl _ _).alloc (Nat.le_refl _) _
  have hX5:w5.heap[w4.heap.size]?=some (.cells (entC x) 64 (0,0)):=by rw [←hw5];exact heap_alloc_at
  have hb35:=hb4.trans (hb5.mono hb4.size)
  have HB5:=Lib.hid (hb4'.trans (hb5.mono hb4'.size))
  have H5:=Lib.hid (H3.out.below hb35)
  have HF5:=Lib.hid ((hb35.block _ (lt_of_block HF3.out)).trans HF3.out)
  have HO5:=Lib.hid (hO.below hb5)
  have HX5:=Lib.hid hX5
  have hxf4:w.heap.size<w4.heap.size:=Nat.lt_of_lt_of_le (lt_of_block HF3.out) hb4.size
  have HXF:=Lib.hid hxf4
  clear hfi hO hb4 hb4' hb5 hb35 hLF3 hX5 hxf4
  go_upto_region 7 with (first
   | ((with_reducible refine wpList_storeA_new hagx ?_ honex ?_ ?_ ?_);rfl;rfl;rfl;go_frame)
   | fail)
  simp only [hw5] at*
  clear hw5
  rcases hC with ⟨h0,rfl,rfl⟩|⟨h0,hC⟩
  ·have H0:=Lib.hid h0
   obtain ⟨cc,hcc⟩: ∃cc,(M.of f 1).2=cc:=⟨_,rfl⟩
   have hc0:cc≠0:=by rw [←hcc];exact h0
   have e0:((cc:Int) !=0)=true:=by simp;omega
   rw [hcc] at HO5 ⊢
   have HCC:=Lib.hid hcc
   have HC0:=Lib.hid hc0
   clear h0 hcc hc0
   go_wp2
   go_ret
   exact .inl ⟨cc,HC0.out,HCC.out ▸ .of HN.out H0.out,rfl,HB5.out⟩
  ·have H0:=Lib.hid h0
   rw [if_pos h0] at HO5 ⊢
   clear h0
   rcases hC with ⟨rfl,hx,hxn⟩|⟨rfl,rfl,hno⟩
   ·obtain ⟨j,hj⟩: ∃j,(M.of f 1).1=j:=⟨_,rfl⟩
    rw [hj] at HO5 hx ⊢
    have HX:=Lib.hid hx
    have HXN:=Lib.hid hxn
    have HJ:=Lib.hid hj
    have hfu:=ffull_any H5.out HT.out hx
    have hLx5:=lies_of HX5.out
    obtain ⟨nl,hnl⟩: ∃nl,(M.N j).L.length=nl:=⟨_,rfl⟩
    rw [hnl]
    have HNL:=Lib.hid hnl
    clear hx hxn hj hnl
    go_wp2_with (first
     | ((with_reducible refine wpList_loadA hagx hLx5 ?_ ?_);rfl;go_frame)
     | fail)
    refine hfu.mono ?_
    rintro e w6 ⟨rfl,hb6⟩
    have HB6:=Lib.hid (HB5.out.trans (hb6.mono HB5.out.size))
    have H6:=Lib.hid (H5.out.below hb6)
    have HF6:=Lib.hid ((hb6.block _ (lt_of_block HF5.out)).trans HF5.out)
    have HX6:=Lib.hid ((hb6.block _ (lt_of_block HX5.out)).trans HX5.out)
    have HO6:=Lib.hid (HO5.out.below hb6)
    clear hfu hb6 hLx5
    by_cases hL0:(M.N x.ino).L= []
    ·have hd:decide ((M.N x.ino).L≠ [])=false:=by rw [hL0];rfl
     rw [hd]
     have HL0:=Lib.hid hL0
     have hof:=of_0 H0.out
     rw [HJ.out] at hof
     have hjb:=there_some hof.1
     have hxe:=HT.out.ent j x HX.out
     have hxj:=HT.out.below HX.out
     have HOF:=Lib.hid hof
     have HJB:=Lib.hid (And.intro hjb.1 hjb.2.1)
     have HXE:=Lib.hid (And.intro hxe.1 hxe.2.1)
     have HXJ:=Lib.hid hxj
     have hn46:=HH.out.rep.n1
     have hn1024:=HH.out.rep.n2
     have hch:=fchange_any H6.out.fs H6.out.ok (by omega) hn1024 HH.out.rep.taken.1
     rw [rep_T HH.out.rep] at hch
     clear hd hL0 hof hjb hxe hxj
     go_wp2_with fail
     refine hch.mono ?_
     rintro e w7 ⟨cc,G,rfl,hC7,hb7,hG7⟩
     have hX7:=(hb7.block _ (lt_of_block HX6.out)).trans HX6.out
     have hLx7:=lies_file (lies_of hX7)
     have hagx2:=aggFl (x.ino:Int) (x.gen:Int)
     have H7:=Lib.hid (H6.out.below hb7)
     have HF7:=Lib.hid ((hb7.block _ (lt_of_block HF6.out)).trans HF6.out)
     have HB7:=Lib.hid (HB6.out.trans (hb7.mono HB6.out.size))
     have HO7:=Lib.hid (HO6.out.below hb7)
     have hG7w: ∀b,G b→w.heap.size≤b:=fun b hb=>Nat.le_trans HB6.out.size (hG7 b hb)
     have hfr:=ffree_any H7.out hC7 (fun b hb hg=>absurd (HH.out.fs.log.lt b hb) (Nat.not_lt.2 (hG7w b hg))) (fun b hb hg=>absurd (HH.out.fs.disk.lt b hb) (Nat.not_lt.2 (hG7w b hg))) (fun hg=>absurd (lt_of_block HH.out.fs.blk) (Nat.not_lt.2 (hG7w s hg))) (of_ent HT.out HX.out).1
     have HG7:=Lib.hid hG7
     have HC7:=Lib.hid hC7
     have HB67:=Lib.hid hb7
     clear hch hb7 hG7 hX7 hG7w hC7
     go_wp2_with (first
      | ((with_reducible refine wpList_loadA hagx2 hLx7 ?_ ?_);rfl;go_frame)
      | fail)
     refine hfr.mono ?_
     rintro e w8 ⟨rfl,G8,T8,H8,bl8,hET,hC8,hm8,hG8⟩
     have hGb: ∀b,b<w6.heap.size→¬ G b:=fun b hb hg=>absurd hb (Nat.not_lt.2 (HG7.out b hg))
     have hG8w: ∀b,G8 b→w6.heap.size≤b:=fun b hb=>(hG8 b hb).elim (HG7.out b) fun h=>Nat.le_trans HB67.out.size h
     have hb68:Below w6.heap.size w6 w8:=HB67.out.trans (hm8.below HB67.out.size fun b hb hg=>absurd hg (hGb b hb))
     have hF8:=(hb68.block _ (lt_of_block HF6.out)).trans HF6.out
     have hlt8: ∀b,G8 b→b<w8.heap.size:=hC8.lt
     have H8S:=Lib.hid (H6.out.below hb68)
     have HF8:=Lib.hid hF8
     have HO8:=Lib.hid (HO6.out.below hb68)
     have HC8:=Lib.hid hC8
     have HG8:=Lib.hid hG8w
     have HB68:=Lib.hid hb68
     have HET:=Lib.hid hET
     have HLT8:=Lib.hid hlt8
     have hS:w8.drew.heap[w.heap.size]?=some (.cells #[.int .i64 f.1, .int .i64 f.2] 33 (0,0)):=hF8
     clear hfr hET hC8 hm8 hG8 hGb hG8w hb68 hF8 hlt8 hLx7
     go_upto_region 16 with fail
     refine wp_region_x (fun w'=>w'.heap[w.heap.size]?=some (.cells #[.int .i64 f.1, .int .i64 f.2] 33 (0,0))) [(0,1),(1,0),(2,1),(3,1),(4,2),(5,2)] (by kernel_rfl) (by kernel_rfl) (by intro d v c a w h;cases d<;>exact h) ?_
     iterate 1 (refine x_take rfl (fun K hK=> ?_);go_simp;refine hK _ ?_;clear hK K)
     refine x_read rfl hS (fun w' h=>exec_loadA hagf rfl (lies_of h)) ?_
     iterate 2 (refine x_take rfl (fun K hK=> ?_);go_simp;refine hK _ ?_;clear hK K)
     refine x_show' rfl (fun K hK=> ?_)
     go_simp
     have hL8:LSl enEn 4 w8.drew (.slice av nl cv) (M.N j).L:=by
      have h1:=(HO8.out.sl elEn.len).below (Below.refl _ w8).drew
      rw [HNL.out] at h1
      exact h1
     have hok:(∀e∈(M.N j).L,Ent.ok e)∧(M.N j).L.length≤24:=by
      rcases (HH.out.rep.nd j).knd with k|k|k
      ·rw [k.2.2.1];exact ⟨fun e he=>(by cases he),Nat.zero_le _⟩
      ·exact ⟨k.2.1,k.2.2.2.1⟩
      ·rw [k.2.1];exact ⟨fun e he=>(by cases he),Nat.zero_le _⟩
     refine (edrop_any w8.drew (.slice av nl cv) (M.N j).L hL8 (by have:=hok.2;omega) t).mono ?_
     rintro e w9 ⟨v9,rfl,hO9,hb9⟩
     have hb89:Below w8.heap.size w8 w9:=(Below.refl _ w8).drew.trans hb9
     have hS9:=(hb89.block _ (lt_of_block hS)).trans hS
     obtain ⟨a9,n9,c9,rfl⟩:=hO9.shape
     refine hK _ _ hS9 ?_
     clear hK K hS hL8
     refine x_show' rfl (fun K hK=> ?_)
     go_simp
     have hG8n: ∀b,b<w6.heap.size→¬ G8 b:=fun b hb hg=>absurd hb (Nat.not_lt.2 (HG8.out b hg))
     have hw6:=HB6.out.size
     have hse:=fsetentries_any (H8S.out.below hb89) (HC8.out.below hb89) (fun b hb hg=>absurd (Nat.lt_of_lt_of_le (HH.out.fs.log.lt b hb) hw6) (Nat.not_lt.2 (HG8.out b hg))) (fun b hb hg=>absurd (Nat.lt_of_lt_of_le (HH.out.fs.disk.lt b hb) hw6) (Nat.not_lt.2 (HG8.out b hg))) (fun hg=>absurd (Nat.lt_of_lt_of_le (lt_of_block HH.out.fs.blk) hw6) (Nat.not_lt.2 (HG8.out s hg))) (by omega) H0.out (HV.out _) (hO9.sl elEn.len) (fun r hr hg=>absurd (HLT8.out r hg) (Nat.not_lt.2 (hO9.lo r hr))) (fun e he=>hok.1 e (ne_mem.1 he).1) ((rise_of (HH.out.rep.nd j)).filter _) (Nat.le_trans (ne_len _ _) hok.2)
     rw [HJ.out] at hse
     refine hse.mono ?_
     rintro e w10 ⟨rfl,G10,T10,H10,e10,bl10,hST,hC10,hm10,hG10⟩
     have hb610:Below w6.heap.size w6 w10:=(HB68.out.trans (hb89.mono HB68.out.size)).trans (hm10.below (Nat.le_trans HB68.out.size hb89.size) fun b hb hg=>absurd hg (hG8n b hb))
     have hS10:=(hb610.block _ (lt_of_block HF6.out)).trans HF6.out
     refine hK _ _ hS10 ?_
     clear hK K hse
     refine x_nil ?_
     obtain ⟨rfl,M',hN',hr',hrep',hck'⟩:=remove_rep HH.out.rep HJB.out HOF.out.2 ⟨Nat.le_trans (by decide) HXE.out.1,HXE.out.2⟩ HXJ.out (HV.out j) HET.out hST
     have hG10w: ∀b,G10 b→w6.heap.size≤b:=fun b hb=>(hG10 b hb).elim (HG8.out b) fun h=>Nat.le_trans (Nat.le_trans HB68.out.size hb89.size) h
     have hb010:=HB6.out.trans (hb610.mono HB6.out.size)
     have hm0:Mod G10 w w10:=mod_of_new hb010
     have hGw: ∀b,G10 b→w.heap.size≤b:=fun b hb=>Nat.le_trans HB6.out.size (hG10w b hb)
     have hco:=fcommitR HH.out hm0 hGw hC10 hck' HQ.out HCHK.out
     obtain ⟨PH,hPH⟩: ∃PH,putH (putH H10 (1+j) (Ino.sec ⟨1,(M.N j).gen,(M.N j).ver+1,bl10⟩)) 1 (mapSec T10)=PH:=⟨_,rfl⟩
     have hck15:ChOk (l.homes d) PH 15:=by
      rw [←hPH]
      exact hck'.put (by omega) (mapSec_sec T10)
     have hP1: ∃k b,PH k=some b:=⟨1,mapSec T10,by rw [←hPH];exact if_pos rfl⟩
     have hyes:RemoveYes M f t M':=⟨HN.out,H0.out,⟨x,by rw [HJ.out];exact HX.out,HXN.out,HL0.out,by rw [HJ.out];exact hN'⟩,hr'⟩
     rw [hPH] at hco hrep'
     have HREP:=Lib.hid hrep'
     have HYES:=Lib.hid hyes
     have HCK15:=Lib.hid hck15
     have HP1:=Lib.hid hP1
     have HM0:=Lib.hid hm0
     have HGW:=Lib.hid hGw
     clear hO9 hb9 hb89 hS9 hST hC10 hm10 hG10 hb610 hS10 hN' hr' hrep' hck' hG10w hb010 hm0 hGw hck15 hP1 hyes hPH hok hG8n hw6
     go_wp2_with fail
     refine hco.mono ?_
     rintro e w12 ⟨rfl,F12,FD12,hF12,hm12,hF12a,hF12b⟩
     have HP12:Hid (FPostG w10 F FD G10 s g p (stPut l d (putsOf l d PH)) (.returned (.int .i64 ((stPut l d (putsOf l d PH)).2.2:Nat))) w12):=Lib.hid ⟨rfl,F12,FD12,hF12,hm12,hF12a,hF12b⟩
     have HPST:=Lib.hid (Pst.of_post HH.out HM0.out HGW.out HP12.out (Mod.refl (fun _=>False) w12) fun r h=>h.elim)
     clear hco hF12 hm12 hF12a hF12b HP12
     go_wp2
     go_ret
     exact .inr ⟨PH,M',HCK15.out,HP1.out,HREP.out,HYES.out,rfl,HPST.out⟩
    ·have hd:decide ((M.N x.ino).L≠ [])=true:=decide_eq_true hL0
     rw [hd]
     have HL0:=Lib.hid hL0
     clear hd hL0
     go_wp2
     go_ret
     exact .inl ⟨13,by decide, .more x HN.out H0.out (by rw [HJ.out];exact HX.out) HXN.out HL0.out,rfl,HB6.out⟩
   ·have HNO:=Lib.hid hno
    obtain ⟨nl,hnl⟩: ∃nl,(M.N (M.of f 1).1).L.length=nl:=⟨_,rfl⟩
    rw [hnl]
    clear hno hnl
    go_wp2
    go_ret
    exact .inl ⟨11,by decide, .none HN.out H0.out HNO.out,rfl,HB5.out⟩
end
end Go.Proofs.YtjdbbnhnbdocbaaGreat
