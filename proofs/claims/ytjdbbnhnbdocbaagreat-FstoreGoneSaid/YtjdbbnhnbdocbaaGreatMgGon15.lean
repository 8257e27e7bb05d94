import Derived.Test.YtjdbbnhnbdocbaaGreatMgGon2
import Derived.Lib.SlKeysI
import Derived.Maps.Range
import Derived.Test.YtjdbbnhnbdocbaaGreatMgGon14
namespace Go.Tn
open Go.RowKit Go.Maps Go.WideElems Go.MapKept
abbrev encI:Int→Value:=Value.int .i64
def anyR:Value→Option (DataW Unit×List MemPlace):=fun _=>some (.nil, [])
theorem owns_ents {P:Program} {K:TypeId} (hK:P.underlying K=some (.int .i64)) {w:World} {m clk:Nat} {L:Ents Int} (hb:w.heap[m]?=some (.map (ents encI L) clk)) (hwf:WF L clk) (hk: ∀e∈L,(Lit.int .i64 e.1).wf=true) (hl:L.length≤100000):
  ∃D0:DataW Unit,w.ownsMap P K anyR m L.length D0∧(intKeys D0).Perm (L.map (·.1))∧Maps.size D0=L.length:=by
 have hrd: ∀e∈L,rd P K anyR ⟨encI e.1,e.2.1,e.2.2⟩=some (Lit.int .i64 e.1, .nil):=fun e he=>by
  simp [rd,anyR,keyOf_int_mk hK (hk e he)]
 have hrg:(ents encI L).toList.map (rg P K anyR)=L.map fun e=>(Lit.int .i64 e.1,(DataW.nil:DataW Unit)):=by
  simp only [ents,List.map_map]
  refine List.map_congr_left fun e he=> ?_
  show rg P K anyR ⟨encI e.1,e.2.1,e.2.2⟩=_
  rw [rg,hrd e he]
  rfl
 refine ⟨_,⟨ents encI L,clk,hb,⟨?_,⟨?_,?_,?_⟩,?_⟩,?_,rfl⟩,?_,?_⟩
 ·simp [ents];unfold maxLen;omega
 ·intro x hx
  simp only [ents,List.mem_map] at hx
  obtain ⟨e,he,rfl⟩:=hx
  exact hwf.lt e he
 ·have h:=hwf.stamps
  simp only [ents,List.map_map]
  exact List.pairwise_map.2 (h.imp fun h=>h)
 ·have h:=hwf.keys
  simp only [ents,List.map_map]
  exact List.pairwise_map.2 (h.imp fun h e=>h (by simpa [encI] using e))
 ·intro x hx
  simp only [ents,List.mem_map] at hx
  obtain ⟨e,he,rfl⟩:=hx
  exact ⟨_,hrd e he⟩
 ·simp [ents]
 ·rw [hrg]
  show (((L.map fun e=>(Lit.int .i64 e.1,(DataW.nil:DataW Unit))).foldr DataW.insert []).map fun p=>intOf p.1).Perm _
  refine ((WideShapes.sorted_perm _).map _).trans ?_
  rw [List.map_map]
  exact List.Perm.refl _
 ·rw [hrg,Maps.size_eq,(WideShapes.sorted_perm _).length_eq,List.length_map]
end Go.Tn
namespace Go.Tn.Dk
open Go.Tn.Bt Go.Tn.Lp
structure Lg where
 n:Nat
 epoch:Nat
 gen:Nat
 tail:Nat
 next:Nat
 H:Nat→Option (List Nat)
 err:Nat
def Lg.free (l:Lg):Nat:=l.n-(l.next-l.tail)
def Lg.homes (l:Lg) (d:Dsk):Nat:=d.L.length-2-l.n
structure Lg.ok (l:Lg) (d:Dsk):Prop where
 n2:2≤l.n
 nd:l.n+3≤d.L.length
 epoch:l.epoch≤16777215
 gen:l.gen≤1099511627775
 tail:l.tail≤l.next
 next:l.next≤l.tail+l.n
 small:l.next<1099511627776
 err:l.err<256
 H: ∀k b,l.H k=some b→k<l.homes d∧secB b
abbrev Pt:=Int×List Nat
def transB (puts:List Pt) (homes:Nat):Bool:=
 decide (1≤puts.length)&&decide (puts.length≤24)&&puts.all (fun p=>decide (0≤p.1)&&decide (p.1<homes)&&decide (p.2.length=128))&&decide (puts.map (·.1)).Nodup
def putBits (p:Pt):List Bool:=bitsN p.1.toNat 12++p.2.flatMap fun c=>bitsN c 8
def recB (puts:List Pt):List Nat:=pack (bitsN puts.length 8++puts.flatMap putBits)
def takeH (H:Nat→Option (List Nat)) (puts:List Pt):Nat→Option (List Nat):=puts.foldl (fun H p k=>if (k:Int)=p.1 then some p.2 else H k) H
end Go.Tn.Dk
namespace Go.Proofs.YtjdbbnhnbdocbaaGreat
open Go.RowKit Go.Tn Go.Tn.Bt Go.Tn.Lp Go.Tn.Dk
theorem keyI:KeyOK Tryz.prog 3 encI where
 now:=⟨_,Tryz.underlying3,fun a b=>by
  right
  simp only [Instr.sameNow,encI]
  rfl⟩
 eq:=fun w a b=>by
  have e:(a==b)=decide (a=b):=rfl
  simp [encI,Op.equal,Op.maxDepth,go_sem,e]
 chk:=fun e w a=>by
  have h: ∀n,(Instr.checkKey e (n+4) 3 (encI a)).run Tryz.prog w= .ok () w:=fun n=>by
   simp [encI,Instr.checkKey,underlying,part,go_sem]
  exact h 9996
 bits:=fun a=>by simp [encI,Instr.sameBits]
structure HAt (w:World) (F:Nat→Prop) (m:Nat) (L:Ents Int) (clk:Nat) (H:Nat→Option (List Nat)):Prop where
 blk:w.heap[m]?=some (.map (ents encI L) clk)
 wf:WF L clk
 key: ∀e∈L, ∃k:Nat,e.1=(k:Int)∧ ∃b,H k=some b∧LRd en8 1 0 w e.2.1 b∧ ∀r,e.2.1.ownBlock=some r→F r∧r≠m
 all: ∀k,H k≠none→ ∃e∈L,e.1=((k:Nat):Int)
 fm:F m
structure LAt (w:World) (F:Nat→Prop) (g p:Nat) (l:Lg):Prop where
 ex: ∃m L clk,w.heap[g]?=some (.cells #[.pointer (some ⟨p,0,none⟩), .int .i64 (l.n:Nat), .int .u64 (l.epoch:Nat), .int .u64 (l.gen:Nat), .int .u64 (l.tail:Nat), .int .u64 (l.next:Nat), .map (some m), .int .i64 (l.err:Nat)] 120 (0,0))∧HAt w F m L clk l.H∧m≠g∧ ∀e∈L,e.2.1.ownBlock≠some g
 fg:F g
 lt: ∀b,F b→b<w.heap.size
theorem HAt.kept {w w':World} {F:Nat→Prop} {m clk:Nat} {L:Ents Int} {H:Nat→Option (List Nat)} (h:HAt w F m L clk H) (hs:w.heap.size≤w'.heap.size) (hb: ∀b,F b→w'.heap[b]?=w.heap[b]?):HAt w' F m L clk H:=
 ⟨(hb m h.fm).trans h.blk,h.wf,fun e he=>by
  obtain ⟨k,h1,b,h2,h3,h4⟩:=h.key e he
  exact ⟨k,h1,b,h2,h3.kept hs fun r hr=>hb r (h4 r hr).1,h4⟩,h.all,h.fm⟩
theorem LAt.kept {w w':World} {F:Nat→Prop} {g p:Nat} {l:Lg} (h:LAt w F g p l) (hs:w.heap.size≤w'.heap.size) (hb: ∀b,F b→w'.heap[b]?=w.heap[b]?):LAt w' F g p l:=by
 obtain ⟨m,L,clk,h1,h2,h3,h4⟩:=h.ex
 exact ⟨⟨m,L,clk,(hb g h.fg).trans h1,h2.kept hs hb,h3,h4⟩,h.fg,fun b hF=>Nat.lt_of_lt_of_le (h.lt b hF) hs⟩
theorem LAt.mod {w w':World} {F S:Nat→Prop} {g p:Nat} {l:Lg} (h:LAt w F g p l) (hm:Mod S w w') (hS: ∀b,F b→¬ S b):LAt w' F g p l:=
 h.kept hm.size fun b hb=>hm.block b (h.lt b hb) (hS b hb)
theorem LAt.below {w w':World} {F:Nat→Prop} {g p:Nat} {l:Lg} (h:LAt w F g p l) (hb:Below w.heap.size w w'):LAt w' F g p l:=
 h.kept hb.size fun b hF=>hb.block b (h.lt b hF)
section
variable {w:World} {F:Nat→Prop} {g p:Nat} {l:Lg}
theorem ok_any (h:LAt w F g p l):Calls Tryz.prog 56 #[.pointer (some ⟨g,0,none⟩)] w fun e w'=>e= .returned (.bool true)∧w'=w:=by
 obtain ⟨m,L,clk,h1, -⟩:=h.ex
 have c0:=cell_of (o:=0) h1 rfl
 clear h h1
 go_enter Tryz.func56,Tryz.ntmps56
 go_wp2
 go_ret
 exact ⟨rfl,rfl⟩
theorem gplace_any (h:LAt w F g p l) (hn:2≤l.n) (hn2:l.n≤4096) (c:Nat) (hc:c<2 ^ 63):Calls Tryz.prog 194 #[.pointer (some ⟨g,0,none⟩), .int .u64 c] w fun e w'=>e= .returned (.int .i64 (2+c %l.n:Nat))∧w'=w:=by
 obtain ⟨m,L,clk,h1, -⟩:=h.ex
 have c1:=cell_of (o:=1) h1 rfl
 clear h h1
 generalize l.n=n at*
 have hm:(c:Int) %(n:Int)=((c %n:Nat):Int):=by omega
 have hlt:=Nat.mod_lt c (show 0<n by omega)
 have hr:((c %n:Nat):Int)≤4096:=by omega
 have hn0:(2:Int)≤n:=by omega
 have hn3:(n:Int)≤4096:=by omega
 have hc63:(c:Int)<9223372036854775808:=by omega
 generalize c %n=r at*
 go_enter Tryz.func194,Tryz.ntmps194
 go_wp2
 go_ret
 exact ⟨rfl,rfl⟩
end
end Go.Proofs.YtjdbbnhnbdocbaaGreat
namespace Go.Tn.Dk
open Go.Tn Go.Tn.Lp
def enPt (x:Pt×Sv):List Value:= [.int .i64 x.1.1,sv x.2]
end Go.Tn.Dk
namespace Go.Proofs.YtjdbbnhnbdocbaaGreat
open Go.RowKit Go.Tn Go.Tn.Bt Go.Tn.Lp Go.Tn.Dk
theorem elPt:ElT Tryz.prog 188 187 2 enPt:=⟨Tryz.underlying188,by kernel_rfl,by omega,fun _=>rfl,fun x u hu=>by
 simp only [enPt,List.mem_cons,List.not_mem_nil,or_false] at hu
 rcases hu with rfl|rfl<;>rfl⟩
theorem aggPt (a:Int) (v:Value):AggT Tryz.prog 187 (#[.int .i64 a,v]:Array Value).size:=⟨⟨_,Tryz.underlying187,rfl⟩,by kernel_rfl⟩
theorem zeroI: ∀w,(zeroValue 3).run Tryz.prog w= .ok (.int .i64 0) w:=fun w=>by simp [go_sem]
def PtsI (w:World) (v:Value) (ps:List Pt):Prop:= ∃xs:List (Pt×Sv),xs.map (·.1)=ps∧LSl enPt 2 w v xs∧ ∀x∈xs,LSl en8 1 w (sv x.2) x.1.2
theorem PtsI.below {w w':World} {v:Value} {ps:List Pt} (h:PtsI w v ps) (hb:Below w.heap.size w w'):PtsI w' v ps:=by
 obtain ⟨xs,h1,h2,h3⟩:=h
 exact ⟨xs,h1,h2.below hb,fun x hx=>(h3 x hx).below hb⟩
section
variable {w:World} {F:Nat→Prop} {g p:Nat} {l:Lg}
theorem stays_any (h:LAt w F g p l) (e0:Nat):Calls Tryz.prog 192 #[.pointer (some ⟨g,0,none⟩), .int .i64 e0] w fun e w'=>e= .returned (.int .i64 e0)∧LAt w' F g p {l with err:=e0}∧Mod (fun b=>b=g) w w':=by
 obtain ⟨m,L,clk,h1,h2,h3,h4⟩:=h.ex
 have c7:=cell_of (o:=7) h1 rfl
 have f7:=free_of (o:=7) h1
 have hh:=heap_setCell_at (o:=7) (v:= .int .i64 (e0:Nat)) h1
 have hm:Mod (fun b=>b=g) w (w.setCell ⟨g,7,none⟩ (.int .i64 (e0:Nat))):=(Mod.refl _ _).setCell _ _ fun _=>rfl
 have hfin:LAt (w.setCell ⟨g,7,none⟩ (.int .i64 (e0:Nat))) F g p {l with err:=e0}:=by
  refine ⟨⟨m,L,clk,hh,?_,h3,h4⟩,h.fg,fun b hb=>Nat.lt_of_lt_of_le (h.lt b hb) hm.size⟩
  refine ⟨hm.heap h2.blk h3,h2.wf,fun e he=> ?_,h2.all,h2.fm⟩
  obtain ⟨k,hk1,b,hk2,hk3,hk4⟩:=h2.key e he
  exact ⟨k,hk1,b,hk2,hk3.kept hm.size fun r hr=>hm.block r (h.lt r (hk4 r hr).1) fun e'=>h4 e he (by rw [hr];exact congrArg some e'),hk4⟩
 have HF:=Lib.hid hfin
 have HM:=Lib.hid hm
 clear h h1 h2 h4 hh hm hfin
 go_enter Tryz.func192,Tryz.ntmps192
 go_wp2
 go_ret
 exact ⟨rfl,HF.out,HM.out⟩
theorem free_any (h:LAt w F g p l) (h1:l.tail≤l.next) (h2:l.next≤l.tail+l.n) (h3:l.next<1099511627776) (h4:l.n≤4096):Calls Tryz.prog 190 #[.pointer (some ⟨g,0,none⟩)] w fun e w'=>e= .returned (.int .i64 (l.free:Nat))∧Below w.heap.size w w':=by
 have hok:=ok_any h
 obtain ⟨m,L,clk,hb, -⟩:=h.ex
 have hS:w.drew.cell? ⟨g,1,none⟩=some (.int .i64 (l.n:Nat))∧w.drew.cell? ⟨g,5,none⟩=some (.int .u64 (l.next:Nat))∧w.drew.cell? ⟨g,4,none⟩=some (.int .u64 (l.tail:Nat)):=⟨cell_of (o:=1) hb rfl,cell_of (o:=5) hb rfl,cell_of (o:=4) hb rfl⟩
 unfold Lg.free
 obtain ⟨n,ep,gn,t,nx,H,er⟩:=l
 simp only at*
 have hw1:IntKind.u64.wrap ((nx:Int)-t)=((nx-t:Nat):Int):=by rw [IntWalk.u64_in _ (by omega)];omega
 have hw2:IntKind.i64.wrap ((nx-t:Nat):Int)=((nx-t:Nat):Int):=IntWalk.i64_in _ (by omega)
 have hw3:IntKind.i64.wrap ((n:Int)-((nx-t:Nat):Int))=((n-(nx-t):Nat):Int):=by rw [IntWalk.i64_in _ (by omega)];omega
 generalize n-(nx-t)=r1 at*
 generalize nx-t=r2 at*
 clear h hb h1 h2
 go_enter Tryz.func190,Tryz.ntmps190
 go_upto_region 3 with (first
  | (go_at_call 56;refine hok.mono ?_;rintro e w2 ⟨rfl,hw⟩;obtain rfl:=hw.symm;clear hw)
  | fail)
 refine wp_region_x (fun w'=>w'.cell? ⟨g,1,none⟩=some (.int .i64 (n:Nat))∧w'.cell? ⟨g,5,none⟩=some (.int .u64 (nx:Nat))∧w'.cell? ⟨g,4,none⟩=some (.int .u64 (t:Nat))) [(0,1),(1,1),(2,1),(3,0),(4,1),(5,1),(6,1),(7,0),(8,1),(9,1),(10,1),(11,0),(12,1),(13,1),(14,1),(15,1)] (by kernel_rfl) (by kernel_rfl) (by intro d v c a w h;cases d<;>exact h) ?_
 iterate 3 (refine x_take rfl (fun K hK=> ?_);go_simp;refine hK _ ?_;clear hK K)
 refine x_read rfl hS (fun w' h=>exec_load1 ⟨⟨_,Tryz.underlying3,rfl⟩⟩ rfl h.1) ?_
 iterate 3 (refine x_take rfl (fun K hK=> ?_);go_simp;refine hK _ ?_;clear hK K)
 refine x_read rfl hS (fun w' h=>exec_load1 ⟨⟨_,Tryz.underlying37,rfl⟩⟩ rfl h.2.1) ?_
 iterate 3 (refine x_take rfl (fun K hK=> ?_);go_simp;refine hK _ ?_;clear hK K)
 refine x_read rfl hS (fun w' h=>exec_load1 ⟨⟨_,Tryz.underlying37,rfl⟩⟩ rfl h.2.2) ?_
 iterate 4 (refine x_take rfl (fun K hK=> ?_);go_simp;refine hK _ ?_;clear hK K)
 refine x_nil ?_
 clear hS
 go_wp2
 go_ret
 exact ⟨rfl,(Below.refl _ _).drew⟩
theorem homes_any {FD:Nat→Prop} {d:Dsk} (h:LAt w F g p l) (hd:DAt w FD p d) (h1:l.n+3≤d.L.length):Calls Tryz.prog 57 #[.pointer (some ⟨g,0,none⟩)] w fun e w'=>e= .returned (.int .i64 (l.homes d:Nat))∧Below w.heap.size w w':=by
 have hok:=ok_any h
 have hsz:=size_any hd.drew
 have hhi:=hd.ok.hi
 obtain ⟨m,L,clk,hb, -⟩:=h.ex
 have hS:w.drew.cell? ⟨g,0,none⟩=some (.pointer (some ⟨p,0,none⟩))∧w.drew.cell? ⟨g,1,none⟩=some (.int .i64 (l.n:Nat)):=⟨cell_of (o:=0) hb rfl,cell_of (o:=1) hb rfl⟩
 unfold Lg.homes
 generalize d.L.length=D at*
 generalize l.n=n at*
 have hw1:IntKind.i64.wrap ((D:Int)-2)=(D:Int)-2:=IntWalk.i64_in _ (by omega)
 have hw3:IntKind.i64.wrap ((D:Int)-2-n)=((D-2-n:Nat):Int):=by rw [IntWalk.i64_in _ (by omega)];omega
 generalize D-2-n=r1 at*
 clear h hd hb h1
 go_enter Tryz.func57,Tryz.ntmps57
 go_upto_region 3 with (first
  | (go_at_call 56;refine hok.mono ?_;rintro e w2 ⟨rfl,hw⟩;obtain rfl:=hw.symm;clear hw)
  | fail)
 refine wp_region_x (fun w'=>w'.cell? ⟨g,0,none⟩=some (.pointer (some ⟨p,0,none⟩))∧w'.cell? ⟨g,1,none⟩=some (.int .i64 (n:Nat))) [(0,1),(1,1),(2,1),(3,0),(6,1),(7,1),(8,1),(9,0),(4,2),(5,1),(10,1),(11,1)] (by kernel_rfl) (by kernel_rfl) (by intro d v c a w h;cases d<;>exact h) ?_
 iterate 3 (refine x_take rfl (fun K hK=> ?_);go_simp;refine hK _ ?_;clear hK K)
 refine x_read rfl hS (fun w' h=>exec_load1 ⟨⟨_,Tryz.underlying25,rfl⟩⟩ rfl h.1) ?_
 iterate 3 (refine x_take rfl (fun K hK=> ?_);go_simp;refine hK _ ?_;clear hK K)
 refine x_read rfl hS (fun w' h=>exec_load1 ⟨⟨_,Tryz.underlying3,rfl⟩⟩ rfl h.2) ?_
 refine x_show' rfl (fun K hK=> ?_)
 go_simp
 refine hsz.mono ?_
 rintro e w2 ⟨rfl,hw⟩
 obtain rfl:=hw.symm
 refine hK _ _ hS ?_
 clear hK K hw hS
 iterate 3 (refine x_take rfl (fun K hK=> ?_);go_simp;refine hK _ ?_;clear hK K)
 refine x_nil ?_
 go_wp2
 go_ret
 exact ⟨rfl,(Below.refl _ _).drew⟩
end
def cntP (ps:List Pt) (x:Int):Nat:=if x∈ps.map (·.1) then 1 else 0
def goodP (p:Pt) (homes:Nat):Prop:=0≤p.1∧p.1<homes∧p.2.length=128
theorem transB_iff (ps:List Pt) (homes:Nat):transB ps homes=true↔1≤ps.length∧ps.length≤24∧(∀p∈ps,goodP p homes)∧(ps.map (·.1)).Nodup:=by
 unfold transB goodP
 simp only [Bool.and_eq_true,decide_eq_true_eq,List.all_eq_true]
 constructor
 ·rintro ⟨⟨⟨h1,h2⟩,h3⟩,h4⟩
  exact ⟨h1,h2,fun p hp=>⟨(h3 p hp).1.1,(h3 p hp).1.2,(h3 p hp).2⟩,h4⟩
 ·rintro ⟨h1,h2,h3,h4⟩
  exact ⟨⟨⟨h1,h2⟩,fun p hp=>⟨⟨(h3 p hp).1,(h3 p hp).2.1⟩,(h3 p hp).2.2⟩⟩,h4⟩
theorem take_snoc {α:Type} {ps:List α} {k:Nat} {p:α} (h:ps[k]?=some p):ps.take (k+1)=ps.take k++ [p]:=by
 rw [List.take_add_one,h]
 rfl
theorem trans_bad {ps:List Pt} {k homes:Nat} {p:Pt} (h:ps[k]?=some p) (hp:¬ goodP p homes):transB ps homes=false:=by
 cases hb:transB ps homes with
 | false=>rfl
 | true=>exact absurd (((transB_iff ps homes).1 hb).2.2.1 p (List.mem_of_getElem? h)) hp
theorem trans_dup {ps:List Pt} {k homes:Nat} {p:Pt} (h:ps[k]?=some p) (hp:p.1∈(ps.take k).map (·.1)):transB ps homes=false:=by
 cases hb:transB ps homes with
 | false=>rfl
 | true=>
  have hnd:=((transB_iff ps homes).1 hb).2.2.2
  have e:ps=ps.take k++p::ps.drop (k+1):=by
   have h1:=(List.take_append_drop (k+1) ps).symm
   rw [take_snoc h] at h1
   simpa using h1
  rw [e,List.map_append,List.map_cons] at hnd
  exact absurd rfl ((List.pairwise_append.1 hnd).2.2 _ hp _ List.mem_cons_self)
set_option maxRecDepth 20000 in
set_option maxHeartbeats 4000000 in
theorem trans_any (w:World) (v:Value) (ps:List Pt) (h:PtsI w v ps) (homes:Nat) (hh:homes≤100000) (hn:ps.length≤100000):
  Calls Tryz.prog 171 #[v, .int .i64 homes] w fun e w'=>e= .returned (.bool (transB ps homes))∧Below w.heap.size w w':=by
 obtain ⟨xs,hxs,hL,hD⟩:=h
 have hxl:xs.length=ps.length:=by rw [←hxs];simp
 obtain ⟨ao,cap,rfl,h1,h2,h3⟩:=hL
 rw [hxl] at h1 h3 ⊢
 unfold maxLen at h2
 have HXS:=Lib.hid hxs
 have HD:=Lib.hid hD
 have HXL:=Lib.hid hxl
 clear hxs hD hxl
 have h63:(ps.length:Int)≤100000:=by omega
 have hh63:(homes:Int)≤100000:=by omega
 have hb0:Below w.heap.size w (w.alloc (.map #[] 0)):=(Below.refl _ _).alloc (Nat.le_refl _) _
 have hm0:(w.alloc (.map #[] 0)).heap[w.heap.size]?=some (.map (ents encI []) 0):=heap_alloc_at
 have HB0:=Lib.hid hb0
 have HM0:=Lib.hid hm0
 clear hb0 hm0
 go_enter Tryz.func171,Tryz.ntmps171
 have hmm:= @run_makeMap Tryz.prog
 go_wp2_with fail
 clear hmm
 go_loopw [11] (fun iv wi=> ∃k:Nat,k≤ps.length∧iv= .int .i64 k∧(∀p∈ps.take k,goodP p homes)∧((ps.take k).map (·.1)).Nodup∧Below w.heap.size w wi∧
  ∃(L:Ents Int) (clk:Nat),wi.heap[w.heap.size]?=some (.map (ents encI L) clk)∧WF L clk∧ ∀x,getD x L (.int .i64 0)= .int .i64 (cntP (ps.take k) x:Nat)) (fun iv _=>ps.length-(intOf iv).toNat)
 case atStart=>exact ⟨0,Nat.zero_le _,rfl,(fun p hp=>by cases hp),List.nodup_nil,HB0.out, [],0,HM0.out,WF.nil 0,fun x=>rfl⟩
 case round=>
  obtain ⟨k,hk,rfl,hg,hnd,hb,L,clk,hm,hwf,hcnt⟩:=hrel
  by_cases hkl:k<ps.length
  ·have hkl':(k:Int)<(ps.length:Int):=by omega
   obtain ⟨x,hx⟩: ∃x,xs[k]?=some x:=⟨_,List.getElem?_eq_getElem (by rw [HXL.out];exact hkl)⟩
   obtain ⟨b,off,rfl,hbl,hcells⟩:=h3 (by omega)
   have hlies:=(hcells k x hx).below' hb hbl
   have hpx:ps[k]?=some x.1:=by rw [←HXS.out,List.getElem?_map,hx];rfl
   obtain ⟨da,dc,hdv,hd1,hd2, -⟩:=HD.out x (List.mem_of_getElem? hx)
   obtain ⟨⟨at_,dat⟩,⟨a1,n1,c1⟩⟩:=x
   obtain ⟨rfl,rfl,rfl⟩:a1=da∧n1=dat.length∧c1=dc:=by simpa [sv] using hdv
   simp only at hd1 hd2 hpx
   unfold maxLen at hd2
   have hdl:(dat.length:Int)≤9223372036854775807:=by omega
   have hts:=take_snoc hpx
   have hc:=hcnt at_
   have HLS:Hid (Lies wr b (off+k*2) #[.int .i64 at_, .slice a1 dat.length c1]):=Lib.hid hlies
   have hm1:(wr.alloc (.cells #[.int .i64 at_, .slice a1 dat.length c1] 187)).heap[w.heap.size]?=some (.map (ents encI L) clk):=heap_alloc_of hm
   have hb1:Below w.heap.size w (wr.alloc (.cells #[.int .i64 at_, .slice a1 dat.length c1] 187)):=hb.alloc hb.size _
   have hbox:(wr.alloc (.cells #[.int .i64 at_, .slice a1 dat.length c1] 187)).heap[wr.heap.size]?=some (.cells #[.int .i64 at_, .slice a1 dat.length c1] 187 (0,0)):=heap_alloc_at
   have hbz:wr.heap.size≠w.heap.size:=by have:=lt_of_block hm;omega
   have HM1:=Lib.hid hm1
   have HB1:=Lib.hid hb1
   have HBOX:=Lib.hid hbox
   have HWF:=Lib.hid hwf
   have HTS:=Lib.hid hts
   have HCN:=Lib.hid hcnt
   have HG:=Lib.hid hg
   have HND:=Lib.hid hnd
   have HPX:=Lib.hid hpx
   obtain ⟨c,hce⟩: ∃c,cntP (ps.take k) at_=c:=⟨_,rfl⟩
   have hc1:c=0∨c=1:=by unfold cntP at hce;split at hce<;>omega
   rw [hce] at hc
   have hc2:(c:Int)≤1:=by omega
   have HCE:=Lib.hid hce
   clear hx hcells hlies hpx hdv hm hm1 hb hb1 hbox hwf hts hcnt hg hnd hce hd1
   go_upto_region 6 with (first
    | ((with_reducible refine wpList_loadA (aggPt _ _) HLS.out ?_ ?_);rfl;go_frame)
    | ((with_reducible refine wpList_exec rfl (exec_lookup keyI Tryz.underlying197 zeroI HM1.out ?_ at_ ?_) ?_);rfl;rfl;go_frame)
    | ((with_reducible refine wpList_mapUpd keyI Tryz.underlying197 HM1.out HWF.out at_ (.int .i64 ((c:Int)+1)) ?_ ?_ ?_ ?_);rfl;rfl;rfl;(intro w4 hm4 hwf4 hmod4;have HM4:=Lib.hid hm4;have HWF4:=Lib.hid hwf4;have HMO:=Lib.hid hmod4;clear hm4 hwf4 hmod4);go_frame)
    | fail)
   have HBOX4:=HMO.out.heap (S:=fun x=>x=w.heap.size) HBOX.out hbz
   have HB4:=Lib.hid (HB1.out.trans (HMO.out.below HB1.out.size fun x hx e=>by omega))
   have q0:=cell_of (o:=0) HBOX4 rfl
   have q1:=cell_of (o:=1) HBOX4 rfl
   have hc4:getD at_ (upd at_ (.int .i64 ((c:Int)+1)) L clk) (.int .i64 0)= .int .i64 ((c:Int)+1):=by
    unfold getD
    rw [get_upd HWF.out,if_pos rfl]
    rfl
   clear HBOX4 hbz hc
   by_cases hA:at_<0
   ·have hA':decide (at_<0)=true:=by simp [hA]
    have HBAD:=Lib.hid (trans_bad (homes:=homes) HPX.out fun e=>absurd e.1 (by simp only;omega))
    go_wp2_with (first
     | ((with_reducible refine wpList_execW (exec_lookup keyI Tryz.underlying197 zeroI HM4.out ?_ at_ ?_) ?_ ?_);rfl;rfl;(first|rfl|(go_simp;done));go_frame)
     | fail)
    go_ret
    rw [HBAD.out]
    exact ⟨rfl,HB4.out⟩
   ·have hA':decide (at_<0)=false:=by simp;omega
    by_cases hB:(homes:Int)≤at_
    ·have hB':decide ((homes:Int)≤at_)=true:=by simp [hB]
     have HBAD:=Lib.hid (trans_bad (homes:=homes) HPX.out fun e=>absurd e.2.1 (by simp only;omega))
     go_wp2_with (first
      | ((with_reducible refine wpList_execW (exec_lookup keyI Tryz.underlying197 zeroI HM4.out ?_ at_ ?_) ?_ ?_);rfl;rfl;(first|rfl|(go_simp;done));go_frame)
      | fail)
     go_ret
     rw [HBAD.out]
     exact ⟨rfl,HB4.out⟩
    ·have hB':decide ((homes:Int)≤at_)=false:=by simp;omega
     by_cases hC:dat.length=128
     rotate_left
     ·have hC':((dat.length:Int) !=128)=true:=by rw [bne_iff_ne];omega
      have HBAD:=Lib.hid (trans_bad (homes:=homes) HPX.out fun e=>absurd e.2.2 hC)
      go_wp2_with (first
       | ((with_reducible refine wpList_execW (exec_lookup keyI Tryz.underlying197 zeroI HM4.out ?_ at_ ?_) ?_ ?_);rfl;rfl;(first|rfl|(go_simp;done));go_frame)
       | fail)
      go_ret
      rw [HBAD.out]
      exact ⟨rfl,HB4.out⟩
     ·have hC':((dat.length:Int) !=128)=false:=by rw [bne_eq_false_iff_eq];omega
      have HC:=Lib.hid hC
      clear hC
      rcases hc1 with rfl|rfl
      ·have hin:at_∉(ps.take k).map (·.1):=fun h=>by
        have:=HCE.out
        unfold cntP at this
        rw [if_pos h] at this
        omega
       have HIN:=Lib.hid hin
       clear hin
       have hD':decide ((1:Int)<((0:Nat):Int)+1)=false:=by simp
       simp only [Int.ofNat_zero,Int.zero_add] at hc4 hD' ⊢
       have hc4':=hc4
       go_wp2_with (first
        | ((with_reducible refine wpList_execW (exec_lookup keyI Tryz.underlying197 zeroI HM4.out ?_ at_ ?_) ?_ ?_);rfl;rfl;(first|rfl|(go_simp;done));go_frame)
        | fail)
       go_roundw
       case rel=>
        refine ⟨k+1,by omega,by go_num,?_,?_,HB4.out,_,_,HM4.out,HWF4.out,fun x=> ?_⟩
        ·rw [HTS.out]
         intro p hp
         rcases List.mem_append.1 hp with hp|hp
         ·exact HG.out p hp
         ·rw [List.mem_singleton.1 hp]
          exact ⟨by simp only;omega,by simp only;omega,HC.out⟩
        ·rw [HTS.out,List.map_append]
         exact List.pairwise_append.2 ⟨HND.out,by simp,fun a ha b hb e=>HIN.out (by simp at hb;rw [←hb, ←e];exact ha)⟩
        ·have hx:=HCN.out x
         unfold getD at hx ⊢
         rw [get_upd HWF.out]
         by_cases hxa:x=at_
         ·rw [if_pos hxa]
          unfold cntP
          rw [HTS.out,if_pos (by rw [List.map_append];simp [hxa])]
          rfl
         ·rw [if_neg hxa,hx]
          unfold cntP
          rw [HTS.out,List.map_append]
          simp only [List.mem_append,List.map_cons,List.map_nil,List.mem_singleton,hxa,or_false]
       case measure=>simp [intOf];omega
      ·have hin:at_∈(ps.take k).map (·.1):=by
        have:=HCE.out
        unfold cntP at this
        split at this
        ·assumption
        ·omega
       have HIN:=Lib.hid hin
       clear hin
       have e2:(((1:Nat):Int)+1)=2:=rfl
       rw [e2] at hc4 HM4 HWF4
       clear e2
       have HBAD:=Lib.hid (trans_dup (homes:=homes) HPX.out HIN.out)
       go_wp2_with (first
        | ((with_reducible refine wpList_execW (exec_lookup keyI Tryz.underlying197 zeroI HM4.out ?_ at_ ?_) ?_ ?_);rfl;rfl;(first|rfl|(go_simp;done));go_frame)
        | fail)
       go_ret
       rw [HBAD.out]
       exact ⟨rfl,HB4.out⟩
  ·obtain rfl:k=ps.length:=by omega
   rw [List.take_length] at hg hnd
   have hiff:=transB_iff ps homes
   have HG:=Lib.hid hg
   have HND:=Lib.hid hnd
   have HI:=Lib.hid hiff
   have HB:=Lib.hid hb
   clear hg hnd hiff hb hm hwf hcnt
   by_cases hl1:1≤ps.length
   ·by_cases hl2:ps.length≤24
    ·have hT:transB ps homes=true:=HI.out.2 ⟨hl1,hl2,HG.out,HND.out⟩
     have HT:=Lib.hid hT
     have hA:decide ((1:Int)≤ps.length)=true:=by simp;omega
     have hB:decide ((ps.length:Int)≤24)=true:=by simp;omega
     clear hT
     go_wp2
     go_ret
     rw [HT.out]
     exact ⟨rfl,HB.out⟩
    ·have hT:transB ps homes=false:=by
      cases e:transB ps homes with
      | false=>rfl
      | true=>exact absurd (HI.out.1 e).2.1 hl2
     have HT:=Lib.hid hT
     have hA:decide ((1:Int)≤ps.length)=true:=by simp;omega
     have hB:decide ((ps.length:Int)≤24)=false:=by simp;omega
     clear hT
     go_wp2
     go_ret
     rw [HT.out]
     exact ⟨rfl,HB.out⟩
   ·have hT:transB ps homes=false:=by
     cases e:transB ps homes with
     | false=>rfl
     | true=>exact absurd (HI.out.1 e).1 hl1
    have HT:=Lib.hid hT
    have hA:decide ((1:Int)≤ps.length)=false:=by simp;omega
    clear hT
    go_wp2
    go_ret
    rw [HT.out]
    exact ⟨rfl,HB.out⟩
end Go.Proofs.YtjdbbnhnbdocbaaGreat
namespace Go.Tn.Dk
open Go.Tn.Bt
theorem dat_len (l:List Nat):(l.flatMap fun c=>bitsN c 8).length=8*l.length:=by
 induction l with
 | nil=>rfl
 | cons x l ih=>simp [bitsN_len,ih];omega
theorem putBits_len (p:Pt):(putBits p).length=12+8*p.2.length:=by simp only [putBits,List.length_append,bitsN_len,dat_len]
theorem puts_len: ∀(ps:List Pt),(∀p∈ps,p.2.length=128)→(ps.flatMap putBits).length=1036*ps.length
 | [],_=>rfl
 | p::ps,h=>by
  rw [List.flatMap_cons,List.length_append,putBits_len,h p List.mem_cons_self,puts_len ps fun q hq=>h q (List.mem_cons_of_mem _ hq),List.length_cons]
  omega
theorem recB_len {ps:List Pt} (h: ∀p∈ps,p.2.length=128):(recB ps).length=(8+1036*ps.length+7)/8:=by
 simp only [recB,pack_len,List.length_append,bitsN_len,puts_len ps h]
end Go.Tn.Dk
namespace Go.Proofs.YtjdbbnhnbdocbaaGreat
open Go.RowKit Go.Tn Go.Tn.Bt Go.Tn.Lp Go.Tn.Dk
theorem WrAt.below {w w':World} {a:Nat} {v:Value} {L:List Bool} (h:WrAt w a v L) (hb:Below w.heap.size w w'):WrAt w' a v L:=⟨(hb.block a (lt_of_block h.blk)).trans h.blk,h.bs.below hb⟩
theorem WrAt.own_lt {w:World} {a:Nat} {v:Value} {L:List Bool} (h:WrAt w a v L) {r:Nat} (hr:r=a∨v.ownBlock=some r):r<w.heap.size:=by
 rcases hr with rfl|hr
 ·exact lt_of_block h.blk
 ·exact h.bs.lt hr
def fitP (p:Pt):Prop:=0≤p.1∧p.1<4096∧p.2.length=128∧ ∀x∈p.2,x<256
set_option maxRecDepth 20000 in
set_option maxHeartbeats 4000000 in
theorem encode_any (w:World) (v:Value) (ps:List Pt) (h:PtsI w v ps) (hf: ∀p∈ps,fitP p) (hn:ps.length≤24):
  Calls Tryz.prog 189 #[v] w fun e w'=> ∃v',e= .returned v'∧LOut en8 1 5 w.heap.size w' v' (recB ps)∧Below w.heap.size w w':=by
 obtain ⟨xs,hxs,hL,hD⟩:=h
 have hxl:xs.length=ps.length:=by rw [←hxs];simp
 obtain ⟨ao,cap,rfl,h1,h2,h3⟩:=hL
 rw [hxl] at h1 h3 ⊢
 unfold maxLen at h2
 have HXS:=Lib.hid hxs
 have HD:=Lib.hid hD
 have HXL:=Lib.hid hxl
 have HFP:=Lib.hid hf
 clear hxs hD hxl hf
 have h63:(ps.length:Int)≤24:=by omega
 have hnew:=bNew_any w
 go_enter Tryz.func189,Tryz.ntmps189
 go_wp2_with fail
 refine hnew.mono ?_
 rintro e w2 ⟨rfl,hW2,hb2⟩
 have HB2:=Lib.hid hb2
 have hput:=put_bits w2 w.heap.size _ _ hW2 ps.length 8 (by simp) (by decide) (by omega)
 clear hb2 hW2 hnew
 go_wp2_with fail
 refine hput.mono ?_
 rintro e w3 ⟨rfl,v3,hW3,hb3, -⟩
 have HW3:=Lib.hid hW3
 have HB3:=Lib.hid (HB2.out.trans hb3)
 clear hb3 hW3 hput
 go_wp2_with fail
 go_loopw [17] (fun iv wi=> ∃k:Nat,k≤ps.length∧iv= .int .i64 k∧Below w.heap.size w wi∧ ∃u,WrAt wi w.heap.size u (bitsN ps.length 8++(ps.take k).flatMap putBits)) (fun iv _=>ps.length-(intOf iv).toNat)
 case atStart=>exact ⟨0,Nat.zero_le _,rfl,HB3.out,v3,by simpa using HW3.out⟩
 case round=>
  obtain ⟨k,hk,rfl,hb,u,hW⟩:=hrel
  by_cases hkl:k<ps.length
  ·have hkl':(k:Int)<(ps.length:Int):=by omega
   obtain ⟨x,hx⟩: ∃x,xs[k]?=some x:=⟨_,List.getElem?_eq_getElem (by rw [HXL.out];exact hkl)⟩
   obtain ⟨b,off,rfl,hbl,hcells⟩:=h3 (by omega)
   have hlies:=(hcells k x hx).below' hb hbl
   have hpx:ps[k]?=some x.1:=by rw [←HXS.out,List.getElem?_map,hx];rfl
   obtain ⟨da,dc,hdv,hd1,hd2,hd3⟩:=HD.out x (List.mem_of_getElem? hx)
   have hfit:=HFP.out x.1 (List.mem_of_getElem? hpx)
   have hts:=take_snoc hpx
   have hpl:((ps.take k).flatMap putBits).length=1036*k:=by
    rw [puts_len _ fun q hq=>(HFP.out q (List.mem_of_mem_take hq)).2.2.1,List.length_take,Nat.min_eq_left hk]
   obtain ⟨⟨at_,dat⟩,⟨a1,n1,c1⟩⟩:=x
   obtain ⟨rfl,rfl,rfl⟩:a1=da∧n1=dat.length∧c1=dc:=by simpa [sv] using hdv
   obtain ⟨hf1,hf2,hf3,hf4⟩:=hfit
   simp only at hd1 hd2 hd3 hpx hf1 hf2 hf3 hf4
   obtain ⟨at_,rfl⟩:=Int.eq_ofNat_of_zero_le hf1
   unfold maxLen at hd2
   rw [hf3] at hd3
   have HLS:Hid (Lies wr b (off+k*2) #[.int .i64 (at_:Nat), .slice a1 128 c1]):=Lib.hid (by rw [←hf3];exact hlies)
   have hb1:Below wr.heap.size wr (wr.alloc (.cells #[.int .i64 (at_:Nat), .slice a1 128 c1] 187)):=(Below.refl _ _).alloc (Nat.le_refl _) _
   have hbox:(wr.alloc (.cells #[.int .i64 (at_:Nat), .slice a1 128 c1] 187)).heap[wr.heap.size]?=some (.cells #[.int .i64 (at_:Nat), .slice a1 128 c1] 187 (0,0)):=heap_alloc_at
   have hW1:=WrAt.below hW hb1
   have hbo: ∀r,r=w.heap.size∨u.ownBlock=some r→¬ r=wr.heap.size:=fun r hr e=>by have:=WrAt.own_lt hW hr;omega
   have hput:=put_bits _ w.heap.size _ _ hW1 at_ 12 (by rw [List.length_append,bitsN_len,hpl];omega) (by decide) (by omega)
   have hat63:(at_:Int)<4096:=by omega
   have HB1:=Lib.hid (hb.trans (hb1.mono hb.size))
   have HBOX:=Lib.hid hbox
   have HBO:=Lib.hid hbo
   have HPL:=Lib.hid hpl
   have HTS:=Lib.hid hts
   have HF4:=Lib.hid hf4
   have HF3:=Lib.hid hf3
   have HD3:=Lib.hid hd3
   clear hx hcells hlies hpx hdv hb hW hb1 hbox hW1 hbo hpl hts hf4 hf3 hd3 hf1 hd1
   go_upto_region 6 with (first
    | ((with_reducible refine wpList_loadA (aggPt _ _) HLS.out ?_ ?_);rfl;go_frame)
    | (go_at_call 125;refine hput.mono ?_;rintro e w5 ⟨rfl,v5,hW5,hb5,hm5⟩;have HW5:=Lib.hid hW5;have HB5:=Lib.hid (HB1.out.trans hb5);have HM5:=Lib.hid hm5;clear hW5 hb5 hm5)
    | fail)
   have hbox5:=HM5.out.mod.heap HBOX.out (fun h=>HBO.out _ h rfl)
   have hwr5:wr.heap.size<w5.heap.size:=lt_of_block hbox5
   have q1:=cell_of (o:=1) hbox5 rfl
   clear hput hbox5
   go_wp2_with fail
   go_loopw [29] (fun jv wi=> ∃j:Nat,j≤128∧jv= .int .i64 j∧Below w.heap.size w wi∧ ∃u,WrAt wi w.heap.size u ((bitsN ps.length 8++(ps.take k).flatMap putBits++bitsN at_ 12)++(dat.take j).flatMap fun c=>bitsN c 8)) (fun jv _=>128-(intOf jv).toNat)
   case atStart=>exact ⟨0,Nat.zero_le _,rfl,HB5.out,v5,by simpa using HW5.out⟩
   case round=>
    obtain ⟨j,hj,rfl,hb6,u6,hW6⟩:=hrel
    by_cases hjl:j<128
    ·have hjl':(j:Int)<128:=by omega
     obtain ⟨c,hc⟩: ∃c,dat[j]?=some c:=⟨_,List.getElem?_eq_getElem (by rw [HF3.out];exact hjl)⟩
     have hc8:=HF4.out c (List.mem_of_getElem? hc)
     obtain ⟨bd,od,rfl,hbd,hcd⟩:=HD3.out (by decide)
     have hcell:=(hcd j c hc).below' hb6 hbd 0 (by simp)
     have hcj:wr.cell? ⟨bd,od+j,none⟩=some (.int .u8 (c:Nat)):=by
      rw [Nat.mul_one,Nat.add_zero] at hcell
      exact hcell
     have hdt:(dat.take (j+1)).flatMap (fun c=>bitsN c 8)=(dat.take j).flatMap (fun c=>bitsN c 8)++bitsN c 8:=by
      rw [List.take_add_one,hc]
      simp
     have hput:=put_bits wr w.heap.size _ _ hW6 c 8 (by simp only [List.length_append,bitsN_len,dat_len,HPL.out,List.length_take];omega) (by decide) (by omega)
     rw [List.append_assoc, ←hdt] at hput
     have hc8':(c:Int)<256:=by omega
     have HB6:=Lib.hid hb6
     clear hcell hc hcd hdt hb6 hW6
     go_wp2_with (first
      | (go_at_call 125;refine hput.mono ?_;rintro e w7 ⟨rfl,v7,hW7,hb7,hm7⟩;have HW7:=Lib.hid hW7;have HB7:=Lib.hid (HB6.out.trans hb7);clear hW7 hb7 hm7)
      | fail)
     go_roundw
     case rel=>exact ⟨j+1,by omega,by go_num,HB7.out,v7,HW7.out⟩
     case measure=>simp [intOf];omega
    ·obtain rfl:j=128:=by omega
     have hall:(dat.take 128).flatMap (fun c=>bitsN c 8)=dat.flatMap fun c=>bitsN c 8:=by rw [List.take_of_length_le (by rw [HF3.out];exact Nat.le_refl _)]
     rw [hall] at hW6
     have hnx:bitsN ps.length 8++(ps.take (k+1)).flatMap putBits=(bitsN ps.length 8++(ps.take k).flatMap putBits++bitsN at_ 12)++dat.flatMap fun c=>bitsN c 8:=by
      rw [HTS.out,List.flatMap_append,List.flatMap_singleton]
      simp [putBits]
     rw [←hnx] at hW6
     have HW6:=Lib.hid hW6
     have HB6:=Lib.hid hb6
     clear hall hnx hW6 hb6
     go_wp2
     go_roundw
     case rel=>exact ⟨k+1,by omega,by go_num,HB6.out,u6,HW6.out⟩
     case measure=>simp [intOf];omega
  ·obtain rfl:k=ps.length:=by omega
   rw [List.take_length] at hW
   have hlen:(bitsN ps.length 8++ps.flatMap putBits).length≤400000:=by
    rw [List.length_append,bitsN_len,puts_len ps fun q hq=>(HFP.out q hq).2.2.1]
    omega
   have hdone:=done_any wr w.heap.size _ _ hW hlen
   have HB:=Lib.hid hb
   clear hb hW hlen
   go_wp2_with fail
   refine hdone.mono ?_
   rintro e w5 ⟨v5,rfl,hO5,hb5⟩
   have hO5':LOut en8 1 5 w.heap.size w5 v5 (recB ps):=hO5.mono HB.out.size
   have HO5:=Lib.hid hO5'
   have HB5:=Lib.hid (HB.out.trans (hb5.mono HB.out.size))
   obtain ⟨a5,n5,c5,rfl⟩:=hO5.shape
   clear hO5 hO5' hb5 hdone
   go_wp2
   go_ret
   exact ⟨_,rfl,HO5.out,HB5.out⟩
end Go.Proofs.YtjdbbnhnbdocbaaGreat
namespace Go.Tn.Dk
open Go.Tn.Bt Go.Tn.Lp
end Go.Tn.Dk
namespace Go.Proofs.YtjdbbnhnbdocbaaGreat
open Go.RowKit Go.Tn Go.Tn.Bt Go.Tn.Lp Go.Tn.Dk
def newestB (d:Dsk):Nat→Nat
 | 0=>0
 | k+1=>max (max (newestB d k) (endsB (d.get k)).1) (endsB (d.get k)).2
theorem fit_of_trans {ps:List Pt} {homes:Nat} (h:transB ps homes=true) (hh:homes≤4096) (hb: ∀p∈ps, ∀x∈p.2,x<256): ∀p∈ps,fitP p:=fun p hp=>by
 obtain ⟨h1,h2,h3⟩:=((transB_iff ps homes).1 h).2.2.1 p hp
 exact ⟨h1,by omega,h3,hb p hp⟩
theorem ends_lt {b:List Nat} (hl:b.length=128) (hb: ∀x∈b,x<256):(endsB b).1<16777216∧(endsB b).2<16777216:=by
 have hN:=numOf_lt 8 (b.take 8) (by rw [List.length_take];omega) fun x hx=>hb x (List.mem_of_mem_take hx)
 have hM:=numOf_lt 8 (b.drop 120) (by rw [List.length_drop];omega) fun x hx=>hb x (List.mem_of_mem_drop hx)
 unfold endsB
 simp only
 omega
theorem newest_lt {d:Dsk} (h:d.ok): ∀k,k≤d.L.length→newestB d k<16777216
 | 0,_=>by simp [newestB]
 | k+1,hk=>by
  have h1:=newest_lt h k (by omega)
  have h2:=h.get (i:=k) (by omega)
  have h3:=ends_lt h2.1 h2.2
  simp only [newestB]
  omega
set_option maxRecDepth 20000 in
theorem newest_any {w:World} {F FD:Nat→Prop} {g p:Nat} {l:Lg} {d:Dsk} (h:LAt w F g p l) (hd:DAt w FD p d) (hn:l.n+3≤d.L.length):
  Calls Tryz.prog 53 #[.pointer (some ⟨g,0,none⟩)] w fun e w'=>e= .returned (.tuple #[.int .u64 (newestB d (2+l.n):Nat), .int .i64 0])∧Below w.heap.size w w':=by
 have hhi:=hd.ok.hi
 have hlt:=h.lt g h.fg
 obtain ⟨m,L,clk,hb, -⟩:=h.ex
 have c1:=cell_of (o:=1) hb rfl
 have HBLK:=Lib.hid (cell_of (o:=0) hb rfl)
 have HD:=Lib.hid hd
 have hokd:=hd.ok
 have HOK:=Lib.hid hokd
 obtain ⟨n,hne⟩: ∃n,2+l.n=n:=⟨_,rfl⟩
 have hs:(2:Int)+(l.n:Nat)=(n:Nat):=by omega
 have hnl:n≤d.L.length:=by omega
 rw [hne]
 have hn63:(n:Int)≤4096:=by omega
 have hl63:((l.n:Nat):Int)≤4096:=by omega
 clear h hb hd hne hokd
 go_enter Tryz.func53,Tryz.ntmps53
 go_wp2_with fail
 clear hs c1
 go_loopw [4,15] (fun ov iv wi=> ∃k:Nat,k≤n∧iv= .int .i64 k∧ov= .int .u64 (newestB d k:Nat)∧Below w.heap.size w wi) (fun _ iv _=>n-(intOf iv).toNat)
 case atStart=>exact ⟨0,Nat.zero_le _,rfl,rfl,Below.refl _ _⟩
 case round=>
  obtain ⟨k,hk,rfl,rfl,hb⟩:=hrel
  by_cases hkl:k<n
  ·have hkl':(k:Int)<(n:Int):=by omega
   have c0:wr.cell? ⟨g,0,none⟩=some (.pointer (some ⟨p,0,none⟩)):=(hb.cell (p:=⟨g,0,none⟩) hlt).trans HBLK.out
   have hrd:=dread_any (HD.out.below hb) k (by omega)
   have hsec:=HOK.out.get (i:=k) (by omega)
   have hmx:newestB d (k+1)=max (max (newestB d k) (endsB (d.get k)).1) (endsB (d.get k)).2:=rfl
   have hl1:=newest_lt HOK.out k (by omega)
   have hl2:=ends_lt hsec.1 hsec.2
   generalize d.get k=bs at*
   obtain ⟨x1,hx1⟩: ∃x,(endsB bs).1=x:=⟨_,rfl⟩
   obtain ⟨x2,hx2⟩: ∃x,(endsB bs).2=x:=⟨_,rfl⟩
   have hends:=fun w v h=>ends_any w v bs h hsec.2 hsec.1
   simp only [hx1,hx2] at hmx hl2 hends
   have HB:=Lib.hid hb
   have HMX:=Lib.hid hmx
   have HLEN:=Lib.hid hsec.1
   generalize newestB d k=y at*
   clear hb hmx hsec hx1 hx2
   go_wp2_with fail
   refine hrd.mono ?_
   rintro e w3 ⟨v,rfl,hv,hb3⟩
   have hends:=hends w3 v hv.sl
   obtain ⟨va,vc,rfl, -⟩:=hv.sl
   have HB3:=Lib.hid (HB.out.trans (hb3.mono HB.out.size))
   clear hv hb3 hrd
   go_wp2_with fail
   refine hends.mono ?_
   rintro e w4 ⟨rfl,hb4⟩
   have HB4:=Lib.hid (HB3.out.trans (hb4.mono HB3.out.size))
   clear hb4 hends
   go_wp2_with fail
   exact ⟨⟨k+1,by omega,by go_num,by rw [HMX.out];exact congrArg (Value.int .u64) (by split<;>split<;>omega),HB4.out⟩,by simp [intOf];omega⟩
  ·obtain rfl:k=n:=by omega
   have HB:=Lib.hid hb
   clear hb
   go_wp2
   go_ret2
   exact ⟨rfl,HB.out⟩
end Go.Proofs.YtjdbbnhnbdocbaaGreat
