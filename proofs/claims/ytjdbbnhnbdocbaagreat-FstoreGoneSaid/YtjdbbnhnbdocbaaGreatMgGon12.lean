import Derived.Test.YtjdbbnhnbdocbaaGreatMgGon10
import Derived.Test.YtjdbbnhnbdocbaaGreatMgGon5
import Derived.Test.YtjdbbnhnbdocbaaGreatMgGon3
import Derived.Sort.WalkA
import Derived.Test.YtjdbbnhnbdocbaaGreatMgGon8
namespace Go.Tn.Dk
open Go.RowKit Go.Tn
structure Dsk where
 L:List (List Nat)
 Q:List (Nat×List Nat)
 fuse:Nat
 fused:Bool
 off:Bool
def secB (s:List Nat):Prop:=s.length=128∧ ∀x∈s,x<256
structure Dsk.ok (d:Dsk):Prop where
 lo:1≤d.L.length
 hi:d.L.length≤4096
 sec: ∀s∈d.L,secB s
 que: ∀q∈d.Q,q.1<d.L.length∧secB q.2
 small:d.Q.length≤1000000000
 fuse:d.fuse<9223372036854775808
def Dsk.step (d:Dsk):Dsk:=if d.off=true∨d.fused=false then d else if d.fuse=0 then {d with off:=true} else {d with fuse:=d.fuse-1}
def seenQ (Q:List (Nat×List Nat)) (i:Nat) (s:List Nat):List Nat:=Q.foldl (fun s q=>if q.1=i then q.2 else s) s
def Dsk.get (d:Dsk) (i:Nat):List Nat:=seenQ d.Q i (d.L.getD i [])
def laid (Q:List (Nat×List Nat)) (L:List (List Nat)):List (List Nat):=Q.foldl (fun L q=>L.set q.1 q.2) L
def Dsk.write (d:Dsk) (i:Nat) (b:List Nat):Dsk:=if d.step.off=true then d.step else {d.step with Q:=d.Q++ [(i,b)]}
def Dsk.flush (d:Dsk):Dsk:=if d.step.off=true then d.step else {d.step with L:=laid d.Q d.L,Q:= []}
def Dsk.dead (d:Dsk):Nat:=if d.step.off=true then 7 else 0
theorem step_L (d:Dsk):d.step.L=d.L:=by unfold Dsk.step;split<;>(try split)<;>rfl
theorem step_Q (d:Dsk):d.step.Q=d.Q:=by unfold Dsk.step;split<;>(try split)<;>rfl
theorem step_fuse (d:Dsk):d.step.fuse≤d.fuse:=by unfold Dsk.step;split<;>(try split)<;>simp
theorem Dsk.ok.step {d:Dsk} (h:d.ok):d.step.ok:=
 ⟨by rw [step_L];exact h.lo,by rw [step_L];exact h.hi,by rw [step_L];exact h.sec,by rw [step_L,step_Q];exact h.que,by rw [step_Q];exact h.small,Nat.lt_of_le_of_lt (step_fuse d) h.fuse⟩
theorem seenQ_sec {n:Nat}: ∀(Q:List (Nat×List Nat)) (i:Nat) (s:List Nat),(∀q∈Q,q.1<n∧secB q.2)→secB s→secB (seenQ Q i s)
 | [],_,_,_,hs=>hs
 | q::Q,i,s,h,hs=>by
  refine seenQ_sec Q i _ (fun r hr=>h r (List.mem_cons_of_mem _ hr)) ?_
  simp only
  split
  ·exact (h q List.mem_cons_self).2
  ·exact hs
theorem Dsk.ok.get {d:Dsk} (h:d.ok) {i:Nat} (hi:i<d.L.length):secB (d.get i):=by
 refine seenQ_sec _ _ _ h.que ?_
 rw [List.getD_eq_getElem?_getD,List.getElem?_eq_getElem hi]
 exact h.sec _ (List.getElem_mem hi)
theorem laid_len: ∀(Q:List (Nat×List Nat)) (L:List (List Nat)),(laid Q L).length=L.length
 | [],_=>rfl
 | q::Q,L=>by rw [show laid (q::Q) L=laid Q (L.set q.1 q.2) from rfl,laid_len Q,List.length_set]
theorem laid_sec {n:Nat}: ∀(Q:List (Nat×List Nat)) (L:List (List Nat)),(∀q∈Q,q.1<n∧secB q.2)→(∀s∈L,secB s)→ ∀s∈laid Q L,secB s
 | [],_,_,hL=>hL
 | q::Q,L,h,hL=>by
  refine laid_sec Q _ (fun r hr=>h r (List.mem_cons_of_mem _ hr)) fun s hs=> ?_
  rcases List.mem_or_eq_of_mem_set hs with hs|rfl
  ·exact hL s hs
  ·exact (h q List.mem_cons_self).2
theorem Dsk.ok.write {d:Dsk} (h:d.ok) {i:Nat} {b:List Nat} (hi:i<d.L.length) (hb:secB b) (hs:d.Q.length<1000000000):(d.write i b).ok:=by
 unfold Dsk.write
 split
 ·exact h.step
 ·refine ⟨by rw [step_L];exact h.lo,by rw [step_L];exact h.hi,by rw [step_L];exact h.sec,?_,by simp;omega,h.step.fuse⟩
  simp only [step_L]
  intro q hq
  rcases List.mem_append.1 hq with hq|hq
  ·exact h.que q hq
  ·rw [List.mem_singleton.1 hq]
   exact ⟨hi,hb⟩
theorem Dsk.ok.flush {d:Dsk} (h:d.ok):d.flush.ok:=by
 unfold Dsk.flush
 split
 ·exact h.step
 ·exact ⟨by rw [laid_len];exact h.lo,by rw [laid_len];exact h.hi,laid_sec _ _ h.que h.sec,fun q hq=>(by cases hq),Nat.zero_le _,h.step.fuse⟩
def enS (s:List Nat):List Value:=(List.range 128).map fun i=> .int .u8 ((s.getD i 0:Nat):Int)
def enQ (q:Nat×List Nat):List Value:= .int .i64 (q.1:Nat)::enS q.2
theorem enS_len (s:List Nat):(enS s).length=128:=by simp [enS]
theorem enQ_len (q:Nat×List Nat):(enQ q).length=129:=by simp [enQ,enS_len]
theorem enS_one (s:List Nat): ∀u∈enS s,u.oneCell'=true:=fun u hu=>by
 obtain ⟨i,_,rfl⟩:=List.mem_map.1 hu
 rfl
theorem enQ_one (q:Nat×List Nat): ∀u∈enQ q,u.oneCell'=true:=fun u hu=>by
 rcases List.mem_cons.1 hu with rfl|hu
 ·rfl
 ·exact enS_one _ u hu
theorem enS_get {s:List Nat} {i b:Nat} (hs:s.length=128) (h:s[i]?=some b):(enS s)[i]?=some (.int .u8 (b:Nat)):=by
 have hi:=(List.getElem?_eq_some_iff.1 h).1
 simp [enS,show i<128 by omega,List.getD_eq_getElem?_getD,h]
end Go.Tn.Dk
namespace Go.Proofs.YtjdbbnhnbdocbaaGreat
open Go.RowKit Go.Tn Go.Tn.Bt Go.Tn.Lp Go.Tn.Dk
theorem elS:ElT Tryz.prog 110 190 128 enS:=⟨Tryz.underlying110,by kernel_rfl,by decide,enS_len,enS_one⟩
theorem elQ:ElT Tryz.prog 111 192 129 enQ:=⟨Tryz.underlying111,by kernel_rfl,by decide,enQ_len,enQ_one⟩
theorem builtQ (i:Int) (s:List Nat):Tryz.prog.built 192 [(0, .int .i64 i),(1, .agg (enS s).toArray)]=some ((.int .i64 i::enS s:List Value)).toArray:=by kernel_rfl
structure DAt (w:World) (F:Nat→Prop) (p:Nat) (d:Dsk):Prop where
 ok:d.ok
 ex: ∃r qv,w.heap[p]?=some (.cells #[.slice (some ⟨r,0,none⟩) d.L.length d.L.length,qv, .int .i64 (d.fuse:Nat), .bool d.fused, .bool d.off] 113 (0,0))∧
  LOut enS 128 190 0 w (.slice (some ⟨r,0,none⟩) d.L.length d.L.length) d.L∧LOut enQ 129 192 0 w qv d.Q∧r≠p∧(∀k,qv.ownBlock=some k→k≠p∧k≠r∧F k)∧F p∧F r
 lt: ∀b,F b→b<w.heap.size
theorem DAt.kept {w w':World} {F:Nat→Prop} {p:Nat} {d:Dsk} (h:DAt w F p d) (hs:w.heap.size≤w'.heap.size) (hb: ∀b,F b→w'.heap[b]?=w.heap[b]?):DAt w' F p d:=by
 obtain ⟨r,qv,h1,h2,h3,h4,h5,h6,h7⟩:=h.ex
 exact ⟨h.ok,⟨r,qv,(hb p h6).trans h1,h2.kept hs fun k hk=>(by cases hk;exact hb r h7),h3.kept hs fun k hk=>hb k (h5 k hk).2.2,h4,h5,h6,h7⟩,fun b hF=>Nat.lt_of_lt_of_le (h.lt b hF) hs⟩
theorem DAt.mod {w w':World} {F S:Nat→Prop} {p:Nat} {d:Dsk} (h:DAt w F p d) (hm:Mod S w w') (hS: ∀b,F b→¬ S b):DAt w' F p d:=
 h.kept hm.size fun b hb=>hm.block b (h.lt b hb) (hS b hb)
theorem DAt.below {w w':World} {F:Nat→Prop} {p:Nat} {d:Dsk} (h:DAt w F p d) (hb:Below w.heap.size w w'):DAt w' F p d:=
 h.kept hb.size fun b hF=>hb.block b (h.lt b hF)
theorem DAt.drew {w:World} {F:Nat→Prop} {p:Nat} {d:Dsk} (h:DAt w F p d):DAt w.drew F p d:=h.kept (Nat.le_refl _) fun _ _=>rfl
theorem size_any {w:World} {F:Nat→Prop} {p:Nat} {d:Dsk} (h:DAt w F p d):Calls Tryz.prog 48 #[.pointer (some ⟨p,0,none⟩)] w fun e w'=>e= .returned (.int .i64 (d.L.length:Nat))∧w'=w:=by
 obtain ⟨r,qv,h1, -⟩:=h.ex
 have c0:=cell_of (o:=0) h1 rfl
 clear h1
 go_enter Tryz.func48,Tryz.ntmps48
 go_wp2
 go_ret
 exact ⟨rfl,rfl⟩
def wrongI (d:Dsk) (i:Int):Int:=if 0≤i∧i<d.L.length then 0 else 2
theorem wrong_any {w:World} {F:Nat→Prop} {p:Nat} {d:Dsk} (h:DAt w F p d) (i:Int):Calls Tryz.prog 121 #[.pointer (some ⟨p,0,none⟩), .int .i64 i] w fun e w'=>e= .returned (.int .i64 (wrongI d i))∧w'=w:=by
 have hsz:=fun w'=>size_any (w:=w') (F:=F) (p:=p) (d:=d)
 obtain ⟨r,qv,h1, -⟩:=h.ex
 have c0:=cell_of (o:=0) h1 rfl
 have hlo:=h.ok.lo
 have hcall:=size_any h
 unfold wrongI
 generalize d.L.length=n at*
 have hn:((n:Int)==0)=false:=by simp;omega
 clear h1 hsz
 by_cases h0:i<0
 ·have hd0:decide (i<0)=true:=by simp [h0]
  rw [if_neg (by omega)]
  go_enter Tryz.func121,Tryz.ntmps121
  go_wp2_with (go_at_call 48;refine hcall.mono ?_;rintro e w2 ⟨rfl,hw⟩;obtain rfl:=hw.symm;clear hw)
  go_ret
  exact ⟨rfl,rfl⟩
 ·have hd0:decide (i<0)=false:=by simp;omega
  by_cases h1:i<n
  ·have hd1:decide ((n:Int)≤i)=false:=by simp;omega
   rw [if_pos (by omega)]
   go_enter Tryz.func121,Tryz.ntmps121
   go_wp2_with (go_at_call 48;refine hcall.mono ?_;rintro e w2 ⟨rfl,hw⟩;obtain rfl:=hw.symm;clear hw)
   go_ret
   exact ⟨rfl,rfl⟩
  ·have hd1:decide ((n:Int)≤i)=true:=by simp;omega
   rw [if_neg (by omega)]
   go_enter Tryz.func121,Tryz.ntmps121
   go_wp2_with (go_at_call 48;refine hcall.mono ?_;rintro e w2 ⟨rfl,hw⟩;obtain rfl:=hw.symm;clear hw)
   go_ret
   exact ⟨rfl,rfl⟩
def zeroS:List Nat:=List.replicate 128 0
theorem zeroS_sec:secB zeroS:=⟨by simp [zeroS],fun x hx=>by rw [List.eq_of_mem_replicate hx];decide⟩
def newD (n:Nat):Dsk:=⟨List.replicate n zeroS, [],0,false,false⟩
theorem newD_ok {n:Nat} (h1:1≤n) (h2:n≤4096):(newD n).ok:=
 ⟨by simp [newD];exact h1,by simp [newD];exact h2,fun s hs=>by rw [List.eq_of_mem_replicate hs];exact zeroS_sec,fun q hq=>(by cases hq),Nat.zero_le _,by simp [newD]⟩
set_option maxRecDepth 20000 in
theorem zeroS_cells:(Tryz.prog.info? 190).map (fun i=>i.zero.map (·.cells))=some (some (enS zeroS).toArray):=by kernel_rfl
set_option maxRecDepth 20000 in
theorem newd_any (w:World) (n:Nat) (h1:1≤n) (h2:n≤4096):Calls Tryz.prog 11 #[.int .i64 n] w
  fun e w'=> ∃p F,e= .returned (.tuple #[.pointer (some ⟨p,0,none⟩), .int .i64 0])∧DAt w' F p (newD n)∧Below w.heap.size w w'∧ ∀b,F b→w.heap.size≤b:=by
 obtain ⟨w2,hmk,hO,hb,hz⟩:=exec_makeA elS zeroS zeroS_cells n (by omega) w
 have hd1:decide ((n:Int)<1)=false:=by simp;omega
 have hd2:decide ((4096:Int)<n)=false:=by simp;omega
 have HMK:=Lib.hid hmk
 have HO:=Lib.hid hO
 have HB:=Lib.hid hb
 have HZ:=Lib.hid hz
 clear hmk hO hb hz
 go_enter Tryz.func11,Tryz.ntmps11
 go_wp2_with (first
  | ((with_reducible refine wpList_exec rfl (HMK.out _ _ _ _ _ _ _ _ ?_ ?_) ?_);rfl;rfl;go_frame)
  | fail)
 go_ret2
 have hb3:Below w2.heap.size w2 (w2.alloc (.cells #[.slice (some ⟨w.heap.size,0,none⟩) n n, .slice none 0 0, .int .i64 0, .bool false, .bool false] 113)):=(Below.refl _ _).alloc (Nat.le_refl _) _
 have hlt:=HO.out.lt (r:=w.heap.size) rfl
 refine ⟨w2.heap.size,fun b=>b=w.heap.size∨b=w2.heap.size,rfl,⟨newD_ok h1 h2,⟨w.heap.size, .slice none 0 0,?_,?_,LOut.nil (Nat.zero_le _),by omega,fun k hk=>(by cases hk), .inr rfl, .inl rfl⟩,?_⟩,HB.out.trans (hb3.mono HB.out.size),?_⟩
 ·have e:(newD n).L.length=n:=by simp [newD]
  rw [e]
  exact heap_alloc_at
 ·have e:(newD n).L.length=n:=by simp [newD]
  rw [e]
  exact (HO.out.below hb3).mono (Nat.zero_le _)
 ·rintro b (rfl|rfl)
  ·have:=hb3.size;omega
  ·simp
 ·rintro b (rfl|rfl)
  ·exact Nat.le_refl _
  ·exact HB.out.size
theorem step_any {w:World} {F:Nat→Prop} {p:Nat} {d:Dsk} (h:DAt w F p d):Calls Tryz.prog 215 #[.pointer (some ⟨p,0,none⟩)] w
  fun e w'=>e= .returned (.bool (!d.step.off))∧DAt w' F p d.step∧Mod (fun b=>b=p) w w':=by
 obtain ⟨r,qv,h1,h2,h3,h4,h5,h6,h7⟩:=h.ex
 have hfu:=h.ok.fuse
 have hokS:=h.ok.step
 have c2:=cell_of (o:=2) h1 rfl
 have c3:=cell_of (o:=3) h1 rfl
 have c4:=cell_of (o:=4) h1 rfl
 have f2:=free_of (o:=2) h1
 have f4:=free_of (o:=4) h1
 have hlt:=lt_of_block h1
 have go: ∀(w':World) (f:Nat) (o:Bool),w'.heap[p]?=some (.cells #[.slice (some ⟨r,0,none⟩) d.L.length d.L.length,qv, .int .i64 (f:Nat), .bool d.fused, .bool o] 113 (0,0))→Mod (fun b=>b=p) w w'→(⟨d.L,d.Q,f,d.fused,o⟩:Dsk).ok→DAt w' F p ⟨d.L,d.Q,f,d.fused,o⟩:=fun w' f o hh hm hok=>
  ⟨hok,⟨r,qv,hh,h2.kept hm.size fun k hk=>(by cases hk;exact hm.block r (h.lt r h7) h4),h3.kept hm.size fun k hk=>hm.block k (h.lt k (h5 k hk).2.2) (h5 k hk).1,h4,h5,h6,h7⟩,fun b hb=>Nat.lt_of_lt_of_le (h.lt b hb) hm.size⟩
 have HG:=Lib.hid go
 have HD:=Lib.hid h
 have HH:=Lib.hid h1
 obtain ⟨L,Q,f,fd,off⟩:=d
 simp only at*
 clear go h h1 h2 h3 h5
 have hf63:(f:Int)≤9223372036854775807:=by omega
 cases off with
 | true=>
  have e:(⟨L,Q,f,fd,true⟩:Dsk).step=⟨L,Q,f,fd,true⟩:=by simp [Dsk.step]
  rw [e]
  go_enter Tryz.func215,Tryz.ntmps215
  go_wp2
  go_ret
  exact ⟨rfl,HD.out,Mod.refl _ _⟩
 | false=>
  cases fd with
  | false=>
   have e:(⟨L,Q,f,false,false⟩:Dsk).step=⟨L,Q,f,false,false⟩:=by simp [Dsk.step]
   rw [e]
   go_enter Tryz.func215,Tryz.ntmps215
   go_wp2
   go_ret
   exact ⟨rfl,HD.out,Mod.refl _ _⟩
  | true=>
   cases f with
   | zero=>
    have e:(⟨L,Q,0,true,false⟩:Dsk).step=⟨L,Q,0,true,true⟩:=by simp [Dsk.step]
    rw [e] at hokS ⊢
    simp only [Int.ofNat_zero] at*
    have hm:Mod (fun b=>b=p) w (w.setCell ⟨p,4,none⟩ (.bool true)):=(Mod.refl _ _).setCell _ _ fun _=>rfl
    have hhh:=heap_setCell_at (o:=4) (v:= .bool true) HH.out
    have HX:=Lib.hid (HG.out _ 0 true (hhh.trans (by simp)) hm hokS)
    have HM:=Lib.hid hm
    clear hm hhh
    go_enter Tryz.func215,Tryz.ntmps215
    go_wp2
    go_ret
    exact ⟨rfl,HX.out,HM.out⟩
   | succ f=>
    have e:(⟨L,Q,f+1,true,false⟩:Dsk).step=⟨L,Q,f,true,false⟩:=by simp [Dsk.step]
    rw [e] at hokS ⊢
    have hm:Mod (fun b=>b=p) w (w.setCell ⟨p,2,none⟩ (.int .i64 (f:Nat))):=(Mod.refl _ _).setCell _ _ fun _=>rfl
    have hhh:=heap_setCell_at (o:=2) (v:= .int .i64 (f:Nat)) HH.out
    have HX:=Lib.hid (HG.out _ f false (hhh.trans (by simp)) hm hokS)
    have HM:=Lib.hid hm
    have hne:(((f+1:Nat):Int)==0)=false:=by simp;omega
    have hsub:((f+1:Nat):Int)-1=f:=by omega
    have hnn:(0:Int)≤((f+1:Nat):Int):=by omega
    clear hm hhh
    generalize ((f+1:Nat):Int)=g at*
    have hw1:IntKind.i64.wrap (g-1)=(f:Int):=by rw [IntWalk.i64_in _ (by omega)];exact hsub
    go_enter Tryz.func215,Tryz.ntmps215
    go_wp2
    go_ret
    exact ⟨rfl,HX.out,HM.out⟩
theorem aggS (s:List Nat):AggZ Tryz.prog 190 (enS s).toArray.size:=by
 have e:(enS s).toArray.size=128:=by simp [enS_len]
 rw [e]
 refine ⟨⟨⟨_,Tryz.underlying190,rfl⟩,by kernel_rfl⟩,?_⟩
 have h:=elS.info
 cases hq:Tryz.prog.info? 190 with
 | none=>simp [hq] at h
 | some i=>
  cases hz:i.zero with
  | none=>simp [hq,hz] at h
  | some z=>simp [hq,hz] at h;exact ⟨i,z,rfl,hz,h.1⟩
theorem aggQ (q:Nat×List Nat):AggZ Tryz.prog 192 (enQ q).toArray.size:=by
 have e:(enQ q).toArray.size=129:=by simp [enQ_len]
 rw [e]
 refine ⟨⟨⟨_,Tryz.underlying192,rfl⟩,by kernel_rfl⟩,?_⟩
 have h:=elQ.info
 cases hq:Tryz.prog.info? 192 with
 | none=>simp [hq] at h
 | some i=>
  cases hz:i.zero with
  | none=>simp [hq,hz] at h
  | some z=>simp [hq,hz] at h;exact ⟨i,z,rfl,hz,h.1⟩
theorem all_one {cs:List Value} (h: ∀u∈cs,u.oneCell'=true):cs.toArray.all (·.oneCell')=true:=by
 rw [Array.all_eq_true_iff_forall_mem]
 intro u hu
 exact h u (by simpa using hu)
theorem zcS (s:List Nat):Tryz.zeroCells190.size=(enS s).toArray.size:=by
 have e:(enS s).toArray.size=128:=by simp [enS_len]
 exact (by kernel_rfl:Tryz.zeroCells190.size=128).trans e.symm
theorem zcQ (q:Nat×List Nat):Tryz.zeroCells192.size=(enQ q).toArray.size:=by
 have e:(enQ q).toArray.size=129:=by simp [enQ_len]
 exact (by kernel_rfl:Tryz.zeroCells192.size=129).trans e.symm
theorem seenQ_take (Q:List (Nat×List Nat)) (i:Nat) (s:List Nat) (k:Nat) (q:Nat×List Nat) (h:Q[k]?=some q):seenQ (Q.take (k+1)) i s=if q.1=i then q.2 else seenQ (Q.take k) i s:=by
 unfold seenQ
 rw [List.take_add_one,h,List.foldl_append]
 rfl
set_option maxRecDepth 20000 in
set_option maxHeartbeats 4000000 in
theorem dread_any {w:World} {F:Nat→Prop} {p:Nat} {d:Dsk} (h:DAt w F p d) (i:Nat) (hi:i<d.L.length):Calls Tryz.prog 59 #[.pointer (some ⟨p,0,none⟩), .int .i64 i] w
  fun e w'=> ∃v,e= .returned (.tuple #[v, .int .i64 0])∧LRd en8 1 w.heap.size w' v (d.get i)∧Below w.heap.size w w':=by
 have hw:=wrong_any h (i:Int)
 have e:wrongI d i=0:=by unfold wrongI;rw [if_pos (by omega)]
 rw [e] at hw
 have hsec:=h.ok.get hi
 obtain ⟨s0,hs0⟩: ∃s,d.L[i]?=some s:=⟨_,List.getElem?_eq_getElem hi⟩
 have hget:d.get i=seenQ d.Q i s0:=by unfold Dsk.get;rw [List.getD_eq_getElem?_getD,hs0];rfl
 rw [hget] at hsec ⊢
 have hsm:=h.ok.small
 have hhi:=h.ok.hi
 obtain ⟨r,qv,h1,h2,h3,h4,h5,h6,h7⟩:=h.ex
 have hll:=h2.lies elS.len hs0
 have hqsl:=h3.sl elQ.len
 obtain ⟨qa,qc,rfl,hq1,hq2,hq3⟩:=hqsl
 unfold maxLen at hq2
 have c0:=cell_of (o:=0) h1 rfl
 have c1:=cell_of (o:=1) h1 rfl
 have hpl:=h.lt p h6
 have hb1:Below w.heap.size w (w.alloc (.cells (enS s0).toArray 190)):=(Below.refl _ _).alloc (Nat.le_refl _) _
 have c1':(w.alloc (.cells (enS s0).toArray 190)).cell? ⟨p,1,none⟩=some (.slice qa d.Q.length qc):=(hb1.cell (p:=⟨p,1,none⟩) hpl).trans c1
 have hX:(w.alloc (.cells (enS s0).toArray 190)).heap[w.heap.size]?=some (.cells (enS s0).toArray 190 (0,0)):=heap_alloc_at
 have hzX:w.heap.size<(w.alloc (.cells (enS s0).toArray 190)).heap.size:=by simp
 have hi':(i:Int)<(d.L.length:Int):=by omega
 have hL63:(d.L.length:Int)≤4096:=by omega
 have hQ63:(d.Q.length:Int)≤1000000000:=by omega
 have HLL:=Lib.hid hll
 have HSEC:=Lib.hid hsec
 have HQC:=Lib.hid hq3
 have HB1:=Lib.hid hb1
 have HX:=Lib.hid hX
 obtain ⟨L,Q,f,fd,off⟩:=d
 simp only at*
 clear hll hsec hq3 hb1 hX hget e h h1 h2 h3 h5 c1 hs0
 go_enter Tryz.func59,Tryz.ntmps59
 go_wp2_with (first
  | (go_at_call 121;refine hw.mono ?_;rintro e w2 ⟨rfl,hw2⟩;obtain rfl:=hw2.symm;clear hw2)
  | ((with_reducible refine wpList_loadA (aggS s0).toAggT HLL.out ?_ ?_);rfl;go_frame)
  | ((with_reducible refine wpList_storeA_new (aggS s0).toAggT (zcS s0) (all_one (enS_one s0)) ?_ ?_ ?_);rfl;rfl;go_frame)
  | fail)
 generalize w.alloc (.cells (enS s0).toArray 190)=w1 at*
 go_loopw [28] (fun iv wi=> ∃k:Nat,k≤Q.length∧iv= .int .i64 k∧wi.heap[w.heap.size]?=some (.cells (enS (seenQ (Q.take k) i s0)).toArray 190 (0,0))∧Below w.heap.size w wi) (fun iv _=>Q.length-(intOf iv).toNat)
 case atStart=>exact ⟨0,Nat.zero_le _,rfl,HX.out,HB1.out⟩
 case round=>
  obtain ⟨k,hk,rfl,hX,hb⟩:=hrel
  by_cases hkl:k<Q.length
  ·have hkl':(k:Int)<(Q.length:Int):=by omega
   obtain ⟨⟨qi,qs⟩,hq⟩: ∃q,Q[k]?=some q:=⟨_,List.getElem?_eq_getElem hkl⟩
   obtain ⟨gq,go,rfl,hgl,hcq⟩:=HQC.out (by omega)
   have hlq:=(hcq k _ hq).below' hb hgl
   have hst:=seenQ_take Q i s0 k _ hq
   have hX2:(wr.alloc (.cells (enQ (qi,qs)).toArray 192)).heap[w.heap.size]?=some (.cells (enS (seenQ (Q.take k) i s0)).toArray 190 (0,0)):=heap_alloc_of hX
   have hb2:Below w.heap.size w (wr.alloc (.cells (enQ (qi,qs)).toArray 192)):=hb.alloc hb.size _
   have hY:(wr.alloc (.cells (enQ (qi,qs)).toArray 192)).heap[wr.heap.size]?=some (.cells (enQ (qi,qs)).toArray 192 (0,0)):=heap_alloc_at
   have hq0:=cell_of (o:=0) (v:= .int .i64 qi) hY rfl
   have hq1:Lies (wr.alloc (.cells (enQ (qi,qs)).toArray 192)) wr.heap.size 1 (enS qs).toArray:=fun j hj=>by
    refine cell_of hY ?_
    rw [List.getElem?_toArray,Nat.add_comm,enQ,List.getElem?_cons_succ]
    simp at hj ⊢
   have HLQ:=Lib.hid hlq
   have HST:=Lib.hid hst
   have HX2:=Lib.hid hX2
   have HB2:=Lib.hid hb2
   have HQ1:=Lib.hid hq1
   clear hq hlq hst hX hb hX2 hb2 hY hq1 hcq
   go_upto_region 8 with (first
    | ((with_reducible refine wpList_loadA (aggQ (qi,qs)).toAggT HLQ.out ?_ ?_);rfl;go_frame)
    | ((with_reducible refine wpList_storeA_new (aggQ (qi,qs)).toAggT (zcQ (qi,qs)) (all_one (enQ_one (qi,qs))) ?_ ?_ ?_);rfl;rfl;go_frame)
    | fail)
   generalize wr.alloc (.cells (enQ (qi,qs)).toArray 192)=w2 at*
   by_cases hqi:qi=i
   ·subst hqi
    rw [if_pos rfl] at HST
    have hfit:0+(enS qs).toArray.size≤(enS (seenQ (Q.take k) qi s0)).toArray.size:=by simp [enS_len]
    have hX3:=heap_setCells_at (enS qs) 0 w2 _ HX2.out
    rw [setMany_all (by simp [enS_len])] at hX3
    have hm3:Mod (fun b=>b=w.heap.size) w2 (w2.setCells w.heap.size 0 (enS qs)):=Mod.setCells (S:=fun b=>b=w.heap.size) (fun _=>rfl) _ _ _ (Mod.refl _ _)
    have HX3:=Lib.hid hX3
    have HB3:=Lib.hid (HB2.out.trans (hm3.below HB2.out.size fun x hx e=>by omega))
    clear hX3 hm3
    go_wp2_with (first
     | ((with_reducible refine wpList_loadA (aggS qs).toAggT HQ1.out ?_ ?_);rfl;go_frame)
     | ((with_reducible refine wpList_execSkip rfl (exec_storeA (aggS qs).toAggT ?_ ?_ HX2.out hfit (enS_one qs)) ?_);rfl;rfl;go_frame)
     | fail)
    go_roundw
    case rel=>exact ⟨k+1,by omega,by go_num,by rw [HST.out];exact HX3.out,HB3.out⟩
    case measure=>simp [intOf];omega
   ·have hne:((qi:Int)==(i:Int))=false:=by simp;omega
    rw [if_neg hqi] at HST
    go_wp2
    go_roundw
    case rel=>exact ⟨k+1,by omega,by go_num,by rw [HST.out];exact HX2.out,HB2.out⟩
    case measure=>simp [intOf];omega
  ·obtain rfl:k=Q.length:=by omega
   rw [List.take_length] at hX
   have HX2:=Lib.hid hX
   have HB2:=Lib.hid hb
   clear hX hb
   go_wp2
   go_ret2
   have hlt:=lt_of_block HX2.out
   refine ⟨.slice (some ⟨w.heap.size,0,none⟩) 128 128,rfl,⟨⟨some ⟨w.heap.size,0,none⟩,128,by rw [HSEC.out.1],by rw [HSEC.out.1];exact Nat.le_refl _,by unfold maxLen;decide,fun _=>⟨w.heap.size,0,rfl,hlt,fun j x hj=> ?_⟩⟩,fun r hr=>by cases hr;exact Nat.le_refl _,fun r hr=>by cases hr;exact hlt⟩,HB2.out⟩
   intro m hm
   have hm0:m=0:=by simpa using hm
   subst hm0
   rw [Nat.mul_one,Nat.zero_add,Nat.add_zero]
   exact cell_of HX2.out (by rw [List.getElem?_toArray];exact enS_get HSEC.out.1 hj)
theorem lies8 {w:World} {b off n cap:Nat} {bs:List Nat} (h:LSl en8 1 w (.slice (some ⟨b,off,none⟩) n cap) bs) (hl:bs.length=128):Lies w b off (enS bs).toArray:=by
 obtain ⟨ao,c,hv,h1,h2,h3⟩:=h
 cases hv
 obtain ⟨b',off',hv,hlt,hc⟩:=h3 (by omega)
 cases hv
 intro j hj
 have hj':j<128:=by simpa [enS_len] using hj
 have hb:bs[j]?=some (bs[j]'(by omega)):=List.getElem?_eq_getElem (by omega)
 have h:=hc j _ hb 0 (by simp)
 rw [Nat.mul_one,Nat.add_zero] at h
 rw [h]
 have:=enS_get hl hb
 rw [List.getElem?_eq_getElem (by rw [enS_len];exact hj')] at this
 simpa using this.symm
set_option maxRecDepth 20000 in
set_option maxHeartbeats 4000000 in
theorem dwrite_any {w:World} {F:Nat→Prop} {p:Nat} {d:Dsk} (h:DAt w F p d) (i:Nat) (hi:i<d.L.length) (v:Value) (bs:List Nat) (hv:LSl en8 1 w v bs) (hbs:secB bs) (hvF: ∀r,v.ownBlock=some r→¬ F r) (hs:d.Q.length<1000000000):
  Calls Tryz.prog 193 #[.pointer (some ⟨p,0,none⟩), .int .i64 i,v] w
  fun e w'=>e= .returned (.int .i64 (d.dead:Nat))∧ ∃F',DAt w' F' p (d.write i bs)∧Mod F w w'∧ ∀b,F' b→F b∨w.heap.size≤b:=by
 have hw:=wrong_any h (i:Int)
 have e:wrongI d i=0:=by unfold wrongI;rw [if_pos (by omega)]
 rw [e] at hw
 have hst:=step_any h
 have hokw:=h.ok.write hi hbs hs
 obtain ⟨ao,cap,rfl,hv1,hv2,hv3⟩:=id hv
 obtain ⟨vb,vo,rfl,hvl, -⟩:=hv3 (by rw [hbs.1];decide)
 have hFp:F p:=by obtain ⟨r,qv, -, -, -, -, -,h6, -⟩:=h.ex;exact h6
 have hvp:vb≠p:=fun e=>hvF vb rfl (e ▸ hFp)
 have hlen:=hbs.1
 rw [hlen] at hv hv1 ⊢
 have HV:=Lib.hid hv
 have HVF:=Lib.hid hvF
 have HOK:=Lib.hid hokw
 have HBS:=Lib.hid hbs
 have HLEN:=Lib.hid hlen
 have HFP:=Lib.hid hFp
 unfold maxLen at hv2
 clear e h hv hvF hokw hbs hlen hFp hv3
 by_cases hoff:d.step.off=true
 ·have hdead:d.dead=7:=by unfold Dsk.dead;rw [if_pos hoff]
  have hwr:d.write i bs=d.step:=by unfold Dsk.write;rw [if_pos hoff]
  rw [hdead,hwr]
  rw [hoff] at hst
  clear hdead hwr hoff
  go_enter Tryz.func193,Tryz.ntmps193
  go_wp2_with (first
   | (go_at_call 121;refine hw.mono ?_;rintro e w2 ⟨rfl,hw2⟩;obtain rfl:=hw2.symm;clear hw2)
   | (go_at_call 215;refine hst.mono ?_;rintro e w2 ⟨rfl,hD,hm⟩;have HD:=Lib.hid hD;have HM:=Lib.hid hm;clear hD hm)
   | fail)
  go_ret
  exact ⟨rfl,F,HD.out,HM.out.mono fun x _ hx=>by rw [hx];exact HFP.out,fun b hb=> .inl hb⟩
 ·have hoff:d.step.off=false:=by simpa using hoff
  have hdead:d.dead=0:=by unfold Dsk.dead;rw [if_neg (by rw [hoff];decide)]
  have hwr:d.write i bs={d.step with Q:=d.Q++ [(i,bs)]}:=by unfold Dsk.write;rw [if_neg (by rw [hoff];decide)]
  rw [hdead]
  rw [hoff] at hst
  have HWR:=Lib.hid hwr
  have HOFF:=Lib.hid hoff
  clear hdead hwr hoff
  go_enter Tryz.func193,Tryz.ntmps193
  go_upto_region 8 with (first
   | (go_at_call 121;refine hw.mono ?_;rintro e w2 ⟨rfl,hw2⟩;obtain rfl:=hw2.symm;clear hw2)
   | (go_at_call 215;refine hst.mono ?_;rintro e w2 ⟨rfl,hD,hm⟩;have HD:=Lib.hid hD;have HM:=Lib.hid hm;clear hD hm)
   | fail)
  obtain ⟨r,qv,h1,h2,h3,h4,h5,h6,h7⟩:=HD.out.ex
  rw [step_L] at h1 h2
  rw [step_Q] at h3
  obtain ⟨qa,qn,qc,rfl⟩:=h3.shape
  have c1:w2.drew.cell? ⟨p,1,none⟩=some (.slice qa qn qc):=cell_of (o:=1) h1 rfl
  have hvw2:LSl en8 1 w2 (.slice (some ⟨vb,vo,none⟩) 128 cap) bs:=HV.out.mod HM.out fun r hr e=>by cases hr;exact hvp e
  have hlv:Lies w2.drew vb vo (enS bs).toArray:=lies8 hvw2 HLEN.out
  have hvl2:vb<w2.heap.size:=Nat.lt_of_lt_of_le hvl HM.out.size
  have hS:w2.drew.cell? ⟨p,1,none⟩=some (.slice qa qn qc)∧Lies w2.drew vb vo (enS bs).toArray:=⟨c1,hlv⟩
  have hql:d.Q.length≤1000000000:=by omega
  refine wp_region_x (fun w'=>w'.cell? ⟨p,1,none⟩=some (.slice qa qn qc)∧Lies w' vb vo (enS bs).toArray) [(0,1),(1,1),(2,1),(3,1),(4,0),(5,1),(6,1),(7,1),(8,0),(9,1),(10,2),(11,2),(12,1),(13,1),(14,3)] (by kernel_rfl) (by kernel_rfl) (by intro d v c a w h;cases d<;>exact h) ?_
  iterate 4 (refine x_take rfl (fun K hK=> ?_);go_simp;refine hK _ ?_;clear hK K)
  refine x_read rfl hS (fun w' h=>exec_load1 ⟨⟨_,Tryz.underlying111,rfl⟩⟩ rfl h.1) ?_
  iterate 2 (refine x_take rfl (fun K hK=> ?_);go_simp;refine hK _ ?_;clear hK K)
  refine x_take rfl (fun K hK=>⟨_,fun w'=>exec_arrayAt Tryz.underlying190 (Nat.le_refl _) rfl,?_⟩)
  go_simp
  refine hK _ ?_
  clear hK K
  refine x_read rfl hS (fun w' h=>exec_loadA (aggS bs).toAggT rfl h.2) ?_
  refine x_take rfl (fun K hK=>⟨_,fun w'=>exec_buildA rfl (builtQ _ _),?_⟩)
  go_simp
  refine hK _ ?_
  clear hK K
  have hb2:Below w2.heap.size w2 (w2.drew.alloc (.cells (enQ (i,bs)).toArray 192)):=(Below.refl _ _).drew.alloc (Nat.le_refl _) _
  have hS2:(w2.drew.alloc (.cells (enQ (i,bs)).toArray 192)).cell? ⟨p,1,none⟩=some (.slice qa qn qc)∧Lies (w2.drew.alloc (.cells (enQ (i,bs)).toArray 192)) vb vo (enS bs).toArray:=
   ⟨(hb2.cell (p:=⟨p,1,none⟩) (lt_of_block h1)).trans c1,Lies.below' hlv ((Below.refl _ _).alloc (Nat.le_refl _) _) hvl2⟩
  refine x_show rfl (exec_buildSliceA (k:=129) Tryz.underlying111 (by kernel_rfl) (by decide) (by decide) (by simp [enS_len]) rfl) hS2 ?_
  obtain ⟨v',w',hr,ho,hb3,hown⟩:=exec_append1Y elQ (ty:=111) (w:=w2.drew) (h3.below (Below.refl _ _).drew) (i,bs) hql
  have hqF: ∀k,(Value.slice qa qn qc).ownBlock=some k→k≠p∧k≠r∧F k:=h5
  have hvq:¬ (Value.slice qa qn qc).ownBlock=some vb:=fun e=>HVF.out vb rfl (hqF vb e).2.2
  have hpq:¬ (Value.slice qa qn qc).ownBlock=some p:=fun e=>(hqF p e).1 rfl
  have hrq:¬ (Value.slice qa qn qc).ownBlock=some r:=fun e=>(hqF r e).2.1 rfl
  have hc3:=cell_mod (S:=fun b=>(Value.slice qa qn qc).ownBlock=some b) c1 hb3 hpq
  have hS3:w'.cell? ⟨p,1,none⟩=some (.slice qa qn qc)∧Lies w' vb vo (enS bs).toArray:=⟨hc3,lies_mod (S:=fun b=>(Value.slice qa qn qc).ownBlock=some b) hlv hb3 hvq⟩
  obtain ⟨a4,n4,c4,rfl⟩:=ho.shape
  refine x_show rfl (hr _ _ _ _ _ _ _ rfl rfl) hS3 ?_
  have h1':w'.heap[p]?=some (.cells #[.slice (some ⟨r,0,none⟩) d.L.length d.L.length, .slice qa qn qc, .int .i64 (d.step.fuse:Nat), .bool d.step.fused, .bool d.step.off] 113 (0,0)):=hb3.heap h1 hpq
  have hf1:=free_of (o:=1) h1'
  clear hS hS2 hS3
  clear hlv hr c1
  iterate 2 (refine x_take rfl (fun K hK=> ?_);go_simp;refine hK _ ?_;clear hK K)
  refine x_skip rfl (exec_store1 ⟨⟨_,Tryz.underlying111,rfl⟩⟩ (by kernel_rfl) rfl rfl rfl hc3 hf1) ?_
  refine x_nil ?_
  have hh:=heap_setCell_at (o:=1) (v:= .slice a4 n4 c4) h1'
  have hm4:Mod (fun b=>b=p) w' (w'.setCell ⟨p,1,none⟩ (.slice a4 n4 c4)):=(Mod.refl _ _).setCell _ _ fun _=>rfl
  have hlt': ∀b,F b→b<w'.heap.size:=fun b hb=>Nat.lt_of_lt_of_le (HD.out.lt b hb) hb3.size
  have hown': ∀k,(Value.slice a4 n4 c4).ownBlock=some k→k≠p∧k≠r∧(F k∨(w2.heap.size≤k∧k<w'.heap.size)):=fun k hk=>by
   rcases hown with e|⟨k',e,hk'⟩
   ·rw [e] at hk
    exact ⟨(hqF k hk).1,(hqF k hk).2.1, .inl (hqF k hk).2.2⟩
   ·have hlk:=ho.lt hk
    rw [e] at hk
    cases hk
    have hk'':w2.heap.size≤k:=hk'
    have hpw:=HD.out.lt p HFP.out
    have hrw:=HD.out.lt r h7
    exact ⟨by omega,by omega, .inr ⟨hk'',hlk⟩⟩
  have hfin:DAt (w'.setCell ⟨p,1,none⟩ (.slice a4 n4 c4)) (fun b=>F b∨(w2.heap.size≤b∧b<w'.heap.size)) p (d.write i bs):=by
   refine ⟨HOK.out,⟨r, .slice a4 n4 c4,?_,?_,?_,h4,hown', .inl h6, .inl h7⟩,?_⟩
   ·rw [HWR.out]
    simp only [step_L]
    exact hh
   ·rw [HWR.out]
    simp only [step_L]
    exact (h2.kept (w:=w2) hb3.size fun k hk=>by cases hk;exact hb3.block r (HD.out.lt r h7) hrq).kept hm4.size fun k hk=>by cases hk;exact hm4.block r (hlt' r h7) h4
   ·rw [HWR.out]
    exact ho.kept hm4.size fun k hk=>hm4.block k (ho.lt hk) (hown' k hk).1
   ·rintro b (hb|hb)
    ·exact Nat.lt_of_lt_of_le (hlt' b hb) hm4.size
    ·exact Nat.lt_of_lt_of_le hb.2 hm4.size
  have hmod:Mod F w (w'.setCell ⟨p,1,none⟩ (.slice a4 n4 c4)):=
   (HM.out.drew.trans (T:=F) (hb3.trans (T:=F) hm4 (fun x hx=>(hqF x hx).2.2) (fun x _ hx=>by rw [hx];exact HFP.out):Mod F w2.drew _) (fun x hx=>by rw [hx];exact HFP.out) (fun _ _ h=>h))
  have HFIN:=Lib.hid hfin
  have HMOD:=Lib.hid hmod
  have hs2:=HM.out.size
  have HS2:=Lib.hid hs2
  clear hfin hmod hown' hh hm4 hlt' h1' hf1 hc3 hb3 ho hown h1 h2 h3 h5 hqF hvw2 hs2 hb2
  go_wp2
  go_ret
  exact ⟨rfl,_,HFIN.out,HMOD.out,fun b hb=>hb.imp id fun hb=>Nat.le_trans HS2.out hb.1⟩
theorem laid_take (Q:List (Nat×List Nat)) (L:List (List Nat)) (k:Nat) (q:Nat×List Nat) (h:Q[k]?=some q):laid (Q.take (k+1)) L=(laid (Q.take k) L).set q.1 q.2:=by
 unfold laid
 rw [List.take_add_one,h,List.foldl_append]
 rfl
set_option maxRecDepth 20000 in
set_option maxHeartbeats 4000000 in
theorem dflush_any {w:World} {F:Nat→Prop} {p:Nat} {d:Dsk} (h:DAt w F p d):
  Calls Tryz.prog 197 #[.pointer (some ⟨p,0,none⟩)] w fun e w'=>e= .returned (.int .i64 (d.dead:Nat))∧DAt w' F p d.flush∧Mod F w w':=by
 have hsz:=size_any h
 have hst:=step_any h
 have hlo:=h.ok.lo
 have hhi:=h.ok.hi
 have hsm:=h.ok.small
 have HOK:=Lib.hid h.ok.flush
 have HQQ:=Lib.hid h.ok.que
 have hFp:F p:=by obtain ⟨r,qv, -, -, -, -, -,h6, -⟩:=h.ex;exact h6
 have HFP:=Lib.hid hFp
 have hne:((d.L.length:Int)==0)=false:=beq_eq_false_iff_ne.2 (by omega)
 clear h hFp
 by_cases hoff:d.step.off=true
 ·have hdead:d.dead=7:=by unfold Dsk.dead;rw [if_pos hoff]
  have hwr:d.flush=d.step:=by unfold Dsk.flush;rw [if_pos hoff]
  rw [hdead,hwr]
  rw [hoff] at hst
  clear hdead hwr hoff
  go_enter Tryz.func197,Tryz.ntmps197
  go_wp2_with (first
   | (go_at_call 48;refine hsz.mono ?_;rintro e w2 ⟨rfl,hw2⟩;obtain rfl:=hw2.symm;clear hw2)
   | (go_at_call 215;refine hst.mono ?_;rintro e w2 ⟨rfl,hD,hm⟩;have HD:=Lib.hid hD;have HM:=Lib.hid hm;clear hD hm)
   | fail)
  go_ret
  exact ⟨rfl,HD.out,HM.out.mono fun x _ hx=>by rw [hx];exact HFP.out⟩
 ·have hoff:d.step.off=false:=by simpa using hoff
  have hdead:d.dead=0:=by unfold Dsk.dead;rw [if_neg (by rw [hoff];decide)]
  have hwr:d.flush={d.step with L:=laid d.Q d.L,Q:= []}:=by unfold Dsk.flush;rw [if_neg (by rw [hoff];decide)]
  rw [hdead]
  rw [hoff] at hst
  have HWR:=Lib.hid hwr
  clear hdead hwr hoff
  go_enter Tryz.func197,Tryz.ntmps197
  go_upto_region 5 with (first
   | (go_at_call 48;refine hsz.mono ?_;rintro e w2 ⟨rfl,hw2⟩;obtain rfl:=hw2.symm;clear hw2)
   | (go_at_call 215;refine hst.mono ?_;rintro e w2 ⟨rfl,hD,hm⟩;have HD:=Lib.hid hD;have HM:=Lib.hid hm;clear hD hm)
   | fail)
  obtain ⟨r,qv,h1,h2,h3,h4,h5,h6,h7⟩:=HD.out.ex
  rw [step_L] at h1 h2
  rw [step_Q] at h3
  obtain ⟨qa,qc,rfl,hq1,hq2,hq3⟩:=h3.sl elQ.len
  unfold maxLen at hq2
  have c1:=cell_of (o:=1) h1 rfl
  have hqr:¬ (Value.slice qa d.Q.length qc).ownBlock=some r:=fun e=>(h5 r e).2.1 rfl
  have hpl:=HD.out.lt p h6
  have H1:=Lib.hid h1
  have H2:=Lib.hid h2
  have H3:=Lib.hid h3
  have H5:=Lib.hid h5
  have HQ3:=Lib.hid hq3
  have hQ63:(d.Q.length:Int)≤1000000000:=by omega
  have hL63:(d.L.length:Int)≤4096:=by omega
  clear h1 h2 h3 h5 hq3
  go_wp2_with fail
  go_loopw [16] (fun iv wi=> ∃k:Nat,k≤d.Q.length∧iv= .int .i64 k∧LOut enS 128 190 0 wi (.slice (some ⟨r,0,none⟩) d.L.length d.L.length) (laid (d.Q.take k) d.L)∧Mod (fun b=>b=r) w2 wi) (fun iv _=>d.Q.length-(intOf iv).toNat)
  case atStart=>exact ⟨0,Nat.zero_le _,rfl,H2.out,Mod.refl _ _⟩
  case round=>
   obtain ⟨k,hk,rfl,hO,hm⟩:=hrel
   by_cases hkl:k<d.Q.length
   ·have hkl':(k:Int)<(d.Q.length:Int):=by omega
    obtain ⟨⟨qi,qs⟩,hq⟩: ∃q,d.Q[k]?=some q:=⟨_,List.getElem?_eq_getElem hkl⟩
    have hqi:qi<d.L.length:=(HQQ.out _ (List.mem_of_getElem? hq)).1
    obtain ⟨gq,go,rfl,hgl,hcq⟩:=HQ3.out (by omega)
    have hgr:¬ gq=r:=fun e=>hqr (by rw [e];rfl)
    have hlq:=lies_mod (S:=fun b=>b=r) (hcq k _ hq) hm hgr
    have hlt2:=laid_take d.Q d.L k _ hq
    have hb2:Below wr.heap.size wr (wr.alloc (.cells (enQ (qi,qs)).toArray 192)):=(Below.refl _ _).alloc (Nat.le_refl _) _
    have hY:(wr.alloc (.cells (enQ (qi,qs)).toArray 192)).heap[wr.heap.size]?=some (.cells (enQ (qi,qs)).toArray 192 (0,0)):=heap_alloc_at
    have hq0:=cell_of (o:=0) (v:= .int .i64 qi) hY rfl
    have hql:Lies (wr.alloc (.cells (enQ (qi,qs)).toArray 192)) wr.heap.size 1 (enS qs).toArray:=fun j hj=>by
     refine cell_of hY ?_
     rw [List.getElem?_toArray,Nat.add_comm,enQ,List.getElem?_cons_succ]
     simp at hj ⊢
    have hp:(wr.alloc (.cells (enQ (qi,qs)).toArray 192)).heap[p]?=_:=(heap_alloc_lt (Nat.lt_of_lt_of_le hpl hm.size)).trans ((hm.block p hpl (fun e=>h4 e.symm)).trans H1.out)
    have c0:=cell_of (o:=0) hp rfl
    have hO2:=hO.below hb2
    have hm2:Mod (fun b=>b=r) w2 (wr.alloc (.cells (enQ (qi,qs)).toArray 192)):=hm.alloc _
    have HLQ:=Lib.hid hlq
    have HLT:=Lib.hid hlt2
    have HO2:=Lib.hid hO2
    have HM2:=Lib.hid hm2
    have HWS:Hid (r<wr.heap.size):=Lib.hid (by have:=hO.lt (r:=r) rfl;exact this)
    clear hq hcq hlq hlt2 hY hp hO hm hO2 hm2 hb2
    go_upto_region 8 with (first
     | ((with_reducible refine wpList_loadA (aggQ (qi,qs)).toAggT HLQ.out ?_ ?_);rfl;go_frame)
     | ((with_reducible refine wpList_storeA_new (aggQ (qi,qs)).toAggT (zcQ (qi,qs)) (all_one (enQ_one (qi,qs))) ?_ ?_ ?_);rfl;rfl;go_frame)
     | fail)
    generalize wr.alloc (.cells (enQ (qi,qs)).toArray 192)=w3 at*
    have hS:w3.drew.cell? ⟨p,0,none⟩=some (.slice (some ⟨r,0,none⟩) d.L.length d.L.length)∧w3.drew.cell? ⟨wr.heap.size,0,none⟩=some (.int .i64 qi)∧Lies w3.drew wr.heap.size 1 (enS qs).toArray:=⟨c0,hq0,hql⟩
    refine wp_region_x (fun w'=>w'.cell? ⟨p,0,none⟩=some (.slice (some ⟨r,0,none⟩) d.L.length d.L.length)∧w'.cell? ⟨wr.heap.size,0,none⟩=some (.int .i64 qi)∧Lies w' wr.heap.size 1 (enS qs).toArray) [(0,1),(1,1),(2,1),(3,0),(4,1),(5,0),(6,1),(7,0),(8,1),(9,3)] (by kernel_rfl) (by kernel_rfl) (by intro d v c a w h;cases d<;>exact h) ?_
    have hqi0:(0:Int)≤(qi:Int):=by omega
    have hqi':(qi:Int)<(d.L.length:Int):=by omega
    iterate 3 (refine x_take rfl (fun K hK=> ?_);go_simp;refine hK _ ?_;clear hK K)
    refine x_read rfl hS (fun w' h=>exec_load1 ⟨⟨_,Tryz.underlying110,rfl⟩⟩ rfl h.1) ?_
    iterate 1 (refine x_take rfl (fun K hK=> ?_);go_simp;refine hK _ ?_;clear hK K)
    refine x_read rfl hS (fun w' h=>exec_load1 ⟨⟨_,Tryz.underlying3,rfl⟩⟩ rfl h.2.1) ?_
    iterate 1 (refine x_take rfl (fun K hK=> ?_);go_simp;refine hK _ ?_;clear hK K)
    refine x_read rfl hS (fun w' h=>exec_loadA (aggS qs).toAggT rfl h.2.2) ?_
    iterate 1 (refine x_take rfl (fun K hK=> ?_);go_simp;refine hK _ ?_;clear hK K)
    obtain ⟨-, -, -, -,cur,hcb,hcs, -⟩:=(HO2.out.below (Below.refl _ _).drew).whole
    have hfit:qi*128+(enS qs).toArray.size≤cur.size:=by
     have:(qi+1)*128≤d.L.length*128:=Nat.mul_le_mul_right 128 hqi
     simp [enS_len]
     omega
    have hOs:=LOut.setA elS.len (HO2.out.below (Below.refl _ _).drew) (i:=qi) (by rw [laid_len];exact hqi) qs
    rw [←HLT.out] at hOs
    have hms:=Mod.setCells (S:=fun b=>b=r) (b:=r) (fun _=>rfl) (enS qs) (qi*128) w3.drew HM2.out.drew
    have HOS:=Lib.hid hOs
    have HMS:=Lib.hid hms
    refine x_skip rfl (exec_storeA (aggS qs).toAggT rfl rfl hcb hfit (enS_one qs)) ?_
    refine x_nil ?_
    clear hS hcb hfit hOs hms hcs c0 hq0 hql
    go_wp2
    go_roundw
    case rel=>exact ⟨k+1,by omega,by go_num,HOS.out,HMS.out⟩
    case measure=>simp [intOf];omega
   ·obtain rfl:k=d.Q.length:=by omega
    rw [List.take_length] at hO
    have hp:wr.heap[p]?=_:=(hm.block p hpl (fun e=>h4 e.symm)).trans H1.out
    have hc1:=cell_of (o:=1) hp rfl
    have hf1:=free_of (o:=1) hp
    have hh:=heap_setCell_at (o:=1) (v:= .slice none 0 0) hp
    have hm4:Mod (fun b=>b=p) wr (wr.setCell ⟨p,1,none⟩ (.slice none 0 0)):=(Mod.refl _ _).setCell _ _ fun _=>rfl
    have hfin:DAt (wr.setCell ⟨p,1,none⟩ (.slice none 0 0)) F p d.flush:=by
     refine ⟨HOK.out,⟨r, .slice none 0 0,?_,?_,?_,h4,(fun k hk=>by cases hk),h6,h7⟩,?_⟩
     ·rw [HWR.out]
      simp only [laid_len]
      exact hh
     ·rw [HWR.out]
      simp only [laid_len]
      exact hO.kept hm4.size fun k hk=>by cases hk;exact hm4.block r (hO.lt rfl) h4
     ·rw [HWR.out]
      exact LOut.nil (Nat.zero_le _)
     ·intro b hb
      exact Nat.lt_of_lt_of_le (Nat.lt_of_lt_of_le (HD.out.lt b hb) hm.size) hm4.size
    have hmod:Mod F w (wr.setCell ⟨p,1,none⟩ (.slice none 0 0)):=
     HM.out.trans (T:=F) (hm.trans (T:=F) hm4 (fun x hx=>by rw [hx];exact h7) (fun x _ hx=>by rw [hx];exact h6):Mod F w2 _) (fun x hx=>by rw [hx];exact h6) (fun _ _ h=>h)
    have HFIN:=Lib.hid hfin
    have HMOD:=Lib.hid hmod
    clear hO hm hp hh hm4 hfin hmod
    go_wp2
    go_ret
    exact ⟨rfl,HFIN.out,HMOD.out⟩
end Go.Proofs.YtjdbbnhnbdocbaaGreat
namespace Go.Tn.Dk
open Go.Tn Go.Tn.Bt Go.Tn.Lp
structure Hd where
 gen:Nat
 tail:Nat
 floor:Nat
def headP (p:Pc) (i:Nat):Option Hd:=
 if p.fi=true∧p.la=true∧p.ct %2=i∧p.da.length=8 then some ⟨p.ct,natOf ((unpack p.da).take 40),natOf (((unpack p.da).drop 40).take 24)⟩ else none
def hdB (bs:List Nat) (i:Nat):Option Hd:=match unsealB bs with
 | some p=>headP p i
 | none=>none
def newer (a b:Option Hd):Option Hd:=match b with
 | none=>a
 | some y=>match a with
  | none=>some y
  | some x=>if x.gen<y.gen then some y else some x
def Dsk.head (d:Dsk) (at_:Nat):Option Hd:=newer (hdB (d.get at_) 0) (hdB (d.get (at_+1)) 1)
def headD (tail floor:Nat):List Nat:=pack (bitsN tail 40++bitsN floor 24)
def headPc (ep:Nat) (h:Hd):Pc:=⟨ep,h.gen,true,true,headD h.tail h.floor⟩
end Go.Tn.Dk
namespace Go.Proofs.YtjdbbnhnbdocbaaGreat
open Go.RowKit Go.Tn Go.Tn.Bt Go.Tn.Lp Go.Tn.Dk
theorem hplace_any (w:World) (a g:Nat) (ha:a≤100000) (hg:g<2 ^ 64):Calls Tryz.prog 167 #[.int .i64 a, .int .u64 g] w fun e w'=>e= .returned (.int .i64 (a+g %2:Nat))∧w'=w:=by
 have h1:bits .and .u64 (g:Int) 1=((g %2:Nat):Int):=by
  have h:=Bits.bits_and g 1 hg (by decide)
  rw [show g &&& 1=g %2 from Nat.and_two_pow_sub_one_eq_mod g 1] at h
  exact h
 have h2:(((g %2:Nat):Int))≤1:=by omega
 obtain ⟨r,hr⟩: ∃r,g %2=r:=⟨_,rfl⟩
 rw [hr] at h1 h2 ⊢
 have ha':(a:Int)≤100000:=by omega
 clear hr
 go_enter Tryz.func167,Tryz.ntmps167
 go_wp2
 go_ret
 exact ⟨rfl,rfl⟩
theorem hwrong_ok {w:World} {F:Nat→Prop} {p:Nat} {d:Dsk} (h:DAt w F p d) (a:Nat) (ha:a+1<d.L.length):Calls Tryz.prog 115 #[.pointer (some ⟨p,0,none⟩), .int .i64 a] w fun e w'=>e= .returned (.int .i64 0)∧w'=w:=by
 have hsz:=size_any h
 have hhi:=h.ok.hi
 generalize d.L.length=n at*
 have h0:((n:Int)==0)=false:=beq_eq_false_iff_ne.2 (by omega)
 have h1:decide ((a:Int)<0)=false:=by simp
 have h2:decide ((n:Int)-1≤(a:Int))=false:=by simp;omega
 have h3:(n:Int)≤4096:=by omega
 clear h
 go_enter Tryz.func115,Tryz.ntmps115
 go_wp2_with (first
  | (go_at_call 48;refine hsz.mono ?_;rintro e w2 ⟨rfl,hw2⟩;obtain rfl:=hw2.symm;clear hw2)
  | fail)
 go_ret
 exact ⟨rfl,rfl⟩
end Go.Proofs.YtjdbbnhnbdocbaaGreat
