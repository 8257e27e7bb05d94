import Derived.Test.YtjdbbnhnbdocbaaGreatMgGon35
import Derived.Test.YtjdbbnhnbdocbaaGreatMgGon9
import Derived.Test.YtjdbbnhnbdocbaaGreatMgGon32
import Derived.Test.YtjdbbnhnbdocbaaGreatMgGon27
namespace Go.Proofs.YtjdbbnhnbdocbaaGreat
open Go.RowKit Go.Tn Go.Tn.Bt Go.Tn.Lp Go.Tn.Dk Go.Tn.Ino Go.Tn.Dr Go.Tn.Fm Go.Tn.Names
section
variable {w w':World} {F FD:Nat→Prop} {s g p:Nat} {l:Lg} {d:Dsk} {M:Sm} {n j:Nat} {V:Nat→List Nat}
def Sm.many (M:Sm) (j:Nat):Nat:=if (M.N j).kind=1 then (M.N j).L.length else (placesI (M.P j)).length
def AttrC (M:Sm) (f:Int×Int) (k v n c:Nat):Prop:=(∃j,M.there f=some j∧k=(M.N j).kind∧v=(M.N j).ver∧n=M.many j∧c=0)∨(M.there f=none∧k=0∧v=0∧n=0∧c=14)
def attrC (k v n:Nat):Array Value:= #[.int .i64 (k:Nat), .int .u64 (v:Nat), .int .i64 (n:Nat)]
theorem aggAt (k v n:Nat):AggT Tryz.prog 60 (attrC k v n).size:=⟨⟨_,Tryz.underlying60,rfl⟩,by kernel_rfl⟩
theorem oneAt (k v n:Nat):(attrC k v n).all (·.oneCell')=true:=by simp [attrC,Value.oneCell']
set_option maxRecDepth 20000 in
set_option maxHeartbeats 4000000 in
theorem fattr_any (h:SAt w F FD s g p l d M) (f:Int×Int):Calls Tryz.prog 20 #[.pointer (some ⟨s,0,none⟩), .agg #[.int .i64 f.1, .int .i64 f.2]] w
  fun e w'=>(∃k v n c,e= .returned (.tuple #[.agg (attrC k v n), .int .i64 (c:Nat)])∧AttrC M f k v n c)∧Below w.heap.size w w':=by
 obtain ⟨w1,hw1⟩: ∃w1,w.alloc (.cells #[.int .i64 f.1, .int .i64 f.2] 33)=w1:=⟨_,rfl⟩
 have hb1:Below w.heap.size w w1:=by rw [←hw1];exact (Below.refl _ _).alloc (Nat.le_refl _) _
 have hX1:w1.heap[w.heap.size]?=some (.cells #[.int .i64 f.1, .int .i64 f.2] 33 (0,0)):=by rw [←hw1];exact heap_alloc_at
 have hz1:w1.heap.size=w.heap.size+1:=by rw [←hw1];simp
 obtain ⟨w2,hw2⟩: ∃w2,w1.alloc (.cells (attrC 0 0 0) 60)=w2:=⟨_,rfl⟩
 have hb2:Below w1.heap.size w1 w2:=by rw [←hw2];exact (Below.refl _ _).alloc (Nat.le_refl _) _
 have hX2:w2.heap[w1.heap.size]?=some (.cells (attrC 0 0 0) 60 (0,0)):=by rw [←hw2];exact heap_alloc_at
 have hs2:w2.heap.size=w.heap.size+2:=by rw [←hw2];simp [hz1]
 have hb12:=hb1.trans (hb2.mono hb1.size)
 have hF2:w2.heap[w.heap.size]?=some (.cells #[.int .i64 f.1, .int .i64 f.2] 33 (0,0)):=(hb2.block _ (lt_of_block hX1)).trans hX1
 have h2:=h.below hb12
 have hLF:Lies w2 w.heap.size 0 #[.int .i64 f.1, .int .i64 f.2]:=lies_of hF2
 have hagf:=aggFl f.1 f.2
 have hth:=fthere_any h2 f
 have hE0:attrC 0 0 0= #[.int .i64 0, .int .u64 0, .int .i64 0]:=rfl
 have hag0:AggT Tryz.prog 60 (#[.int .i64 0, .int .u64 0, .int .i64 0]:Array Value).size:=aggAt 0 0 0
 have hone0:(#[.int .i64 0, .int .u64 0, .int .i64 0]:Array Value).all (·.oneCell')=true:=oneAt 0 0 0
 have hsz0:(attrC 0 0 0).size=(#[.int .i64 0, .int .u64 0, .int .i64 0]:Array Value).size:=rfl
 have HB:=Lib.hid hb12
 have HX2:=Lib.hid hX2
 have HZ1:=Lib.hid hz1
 have HZ:=Lib.hid hs2
 have HP:=Lib.hid h.rep
 have H2:=Lib.hid h2
 have HF2:=Lib.hid hF2
 rw [hE0] at hw2
 clear h hb1 hX1 hb2 hX2 hb12 hF2 h2 hz1 hs2
 go_enter Tryz.func20,Tryz.ntmps20
 go_upto_region 1 with fail
 simp only [hw1,hw2] at*
 clear hw1 hw2
 go_wp2_with (first
  | ((with_reducible refine wpList_loadA hagf hLF ?_ ?_);rfl;go_frame)
  | fail)
 refine hth.mono ?_
 rintro e w3 ⟨hR,hb3⟩
 obtain ⟨x,c,hx8,rfl,hxj⟩: ∃(x:Ino) (c:Nat),x.bl.length=8∧e= .returned (.tuple #[.agg (inoC x), .int .i64 (c:Nat)])∧((c=0∧ ∃j,M.there f=some j∧x=M.ino j)∨(c=14∧M.there f=none)):=by
  unfold ThereR at hR
  cases hq:M.there f with
  | none=>
   rw [hq] at hR
   obtain ⟨x,h1,h2⟩:=hR
   exact ⟨x,14,h1,h2, .inr ⟨rfl,rfl⟩⟩
  | some j=>
   rw [hq] at hR
   exact ⟨M.ino j,0,HP.out.mid.len j,hR, .inl ⟨rfl,j,rfl,rfl⟩⟩
 have hag:=aggI hx8
 have hone:=inoC_one x
 have hsz11:(inoC x).size=11:=inoC_size hx8
 have hb3':=HB.out.trans (hb3.mono HB.out.size)
 have hres:=(hb3.block _ (lt_of_block HX2.out)).trans HX2.out
 obtain ⟨w4,hw4⟩: ∃w4,w3.alloc (.cells (inoC x) 52)=w4:=⟨_,rfl⟩
 have hb4:Below w3.heap.size w3 w4:=by rw [←hw4];exact (Below.refl _ _).alloc (Nat.le_refl _) _
 have hX4:w4.heap[w3.heap.size]?=some (.cells (inoC x) 52 (0,0)):=by rw [←hw4];exact heap_alloc_at
 have hres4:=(hb4.block _ (lt_of_block hres)).trans hres
 have hL4:Lies w4 w3.heap.size 0 (inoC x):=lies_of hX4
 have HF4:=Lib.hid ((hb4.block _ (lt_of_block ((hb3.block _ (lt_of_block HF2.out)).trans HF2.out))).trans ((hb3.block _ (lt_of_block HF2.out)).trans HF2.out))
 have H4:=Lib.hid ((H2.out.below hb3).below hb4)
 have HB4:=Lib.hid (hb3'.trans (hb4.mono hb3'.size))
 have HX4:=Lib.hid hX4
 have HX8:=Lib.hid hx8
 have HXJ:=Lib.hid hxj
 clear hth hR hb3 hb3' hres hb4 hX4 hx8 hLF
 go_upto_region 2 with (first
  | ((with_reducible refine wpList_storeA_new hag ?_ hone ?_ ?_ ?_);(rw [hsz11];rfl);rfl;rfl;go_frame)
  | fail)
 simp only [hw4] at*
 clear hw4 hxj
 rcases HXJ.out with ⟨rfl,j,hj,hxx⟩|⟨rfl,hn⟩
 ·have hus:=iused_any w4 x HX8.out
  obtain ⟨nP,hnP⟩: ∃nP,(placesI x.bl).length=nP:=⟨_,rfl⟩
  rw [hnP] at hus
  have HNP:=Lib.hid hnP
  have HJ:=Lib.hid hj
  have HXX:=Lib.hid hxx
  have HRES4:=Lib.hid hres4
  clear hj hxx hnP hres4
  go_upto_region 5 with (first
   | ((with_reducible refine wpList_loadA hag hL4 ?_ ?_);rfl;go_frame)
   | (go_at_call 69;refine hus.mono ?_;rintro e w5 ⟨rfl,hb5⟩;have HB5:=Lib.hid hb5;clear hb5)
   | fail)
  have hX5:=(HB5.out.block _ (lt_of_block HX4.out)).trans HX4.out
  have hL5:Lies w5 w3.heap.size 0 (inoC x):=lies_of hX5
  have q0:w5.cell? ⟨w3.heap.size,0,none⟩=some (.int .i64 (x.kind:Nat)):=cell_of hX5 rfl
  have q2:w5.cell? ⟨w3.heap.size,2,none⟩=some (.int .u64 (x.ver:Nat)):=cell_of hX5 rfl
  have hres5:=(HB5.out.block _ (lt_of_block HRES4.out)).trans HRES4.out
  have hb5':=HB4.out.trans (HB5.out.mono HB4.out.size)
  have HB5':=Lib.hid hb5'
  have HX5:=Lib.hid hX5
  have HRES5:=Lib.hid hres5
  clear hb5' hus hL4 hX5
  have hj0:M.there f=some j∧x=M.ino j:=⟨HJ.out,HXX.out⟩
  by_cases hk1:x.kind=1
  ·have hk1':((x.kind:Int)==1)=true:=by rw [hk1];rfl
   have hof:M.of f 1=(j,0):=by
    unfold Sm.of
    rw [hj0.1]
    simp only
    rw [if_pos (by rw [hj0.2] at hk1;exact hk1)]
   have hle:=flistE_any (H4.out.below HB5.out) f
   unfold ListR at hle
   rw [hof] at hle
   simp only [if_pos] at hle
   obtain ⟨L,hL⟩: ∃L,(M.N j).L=L:=⟨_,rfl⟩
   rw [hL] at hle
   have hmany:M.many j=L.length:=by
    unfold Sm.many
    rw [if_pos (by rw [hj0.2] at hk1;exact hk1),hL]
   obtain ⟨nL,hnL⟩: ∃nL,L.length=nL:=⟨_,rfl⟩
   have hLF5:Lies w5 w.heap.size 0 #[.int .i64 f.1, .int .i64 f.2]:=lies_of ((HB5.out.block _ (lt_of_block HF4.out)).trans HF4.out)
   have hagA:AggT Tryz.prog 60 (#[.int .i64 (x.kind:Nat), .int .u64 (x.ver:Nat), .int .i64 (nL:Nat)]:Array Value).size:=aggAt x.kind x.ver nL
   have honeA:(#[.int .i64 (x.kind:Nat), .int .u64 (x.ver:Nat), .int .i64 (nL:Nat)]:Array Value).all (·.oneCell')=true:=oneAt x.kind x.ver nL
   have hszA:(attrC 0 0 0).size=(#[.int .i64 (x.kind:Nat), .int .u64 (x.ver:Nat), .int .i64 (nL:Nat)]:Array Value).size:=rfl
   have HK:=Lib.hid hk1
   have HMANY:=Lib.hid hmany
   have HNL:=Lib.hid hnL
   clear hk1 hres5 hof hmany hL hj0 hnL
   go_upto_region 7 with (first
    | ((with_reducible refine wpList_loadA hagf hLF5 ?_ ?_);rfl;go_frame)
    | (go_at_call 19;refine hle.mono ?_;rintro e w6 ⟨⟨v6,rfl,hO6⟩,hb6⟩;have hsl6:=hO6.sl elEn.len;obtain ⟨ao6,cap6,hv6, -⟩:=hsl6;rw [HNL.out] at hv6;subst hv6;have HB6:=Lib.hid hb6;clear hb6 hO6)
    | fail)
   have hX6:=(HB6.out.block _ (lt_of_block HX5.out)).trans HX5.out
   have q0':w6.cell? ⟨w3.heap.size,0,none⟩=some (.int .i64 (x.kind:Nat)):=cell_of hX6 rfl
   have q2':w6.cell? ⟨w3.heap.size,2,none⟩=some (.int .u64 (x.ver:Nat)):=cell_of hX6 rfl
   have hres6:=(HB6.out.block _ (lt_of_block HRES5.out)).trans HRES5.out
   have HB6':=Lib.hid (HB5'.out.trans (HB6.out.mono HB5'.out.size))
   clear hle hX6 q0 q2 hLF5
   go_wp2_with (first
    | ((with_reducible refine wpList_storeB hagA ?_ ?_ hres6 hszA honeA ?_);rfl;rfl;(intro w9 hh9 hm9;have HH9:=Lib.hid hh9;have HM9:=Lib.hid hm9;clear hh9 hm9);go_frame)
    | fail)
   refine bodyPost_ret (results_cellT rfl _ rfl hagA (lies_of HH9.out)) rfl ?_
   exact ⟨⟨x.kind,x.ver,nL,0,rfl, .inl ⟨j,HJ.out,by rw [HXX.out];rfl,by rw [HXX.out];rfl,by rw [HMANY.out,HNL.out],rfl⟩⟩,HB6'.out.trans (HM9.out.below HB6'.out.size fun y hy e=>by have h1:=HZ1.out;omega)⟩
  ·have hk1':((x.kind:Int)==1)=false:=by simp;omega
   have hmany:M.many j=nP:=by
    unfold Sm.many
    rw [if_neg (by rw [hj0.2] at hk1;exact hk1), ←HNP.out,hj0.2]
    rfl
   have hagA:AggT Tryz.prog 60 (#[.int .i64 (x.kind:Nat), .int .u64 (x.ver:Nat), .int .i64 (nP:Nat)]:Array Value).size:=aggAt x.kind x.ver nP
   have honeA:(#[.int .i64 (x.kind:Nat), .int .u64 (x.ver:Nat), .int .i64 (nP:Nat)]:Array Value).all (·.oneCell')=true:=oneAt x.kind x.ver nP
   have hszA:(attrC 0 0 0).size=(#[.int .i64 (x.kind:Nat), .int .u64 (x.ver:Nat), .int .i64 (nP:Nat)]:Array Value).size:=rfl
   have HK:=Lib.hid hk1
   have HMANY:=Lib.hid hmany
   clear hk1 hmany hj0
   go_wp2_with (first
    | ((with_reducible refine wpList_storeB hagA ?_ ?_ hres5 hszA honeA ?_);rfl;rfl;(intro w9 hh9 hm9;have HH9:=Lib.hid hh9;have HM9:=Lib.hid hm9;clear hh9 hm9);go_frame)
    | fail)
   refine bodyPost_ret (results_cellT rfl _ rfl hagA (lies_of HH9.out)) rfl ?_
   exact ⟨⟨x.kind,x.ver,nP,0,rfl, .inl ⟨j,HJ.out,by rw [HXX.out];rfl,by rw [HXX.out];rfl,HMANY.out.symm,rfl⟩⟩,HB5'.out.trans (HM9.out.below HB5'.out.size fun y hy e=>by have h1:=HZ1.out;omega)⟩
 ·have HN:=Lib.hid hn
  clear hn
  go_wp2_with (first
   | ((with_reducible refine wpList_storeB hag0 ?_ ?_ hres4 hsz0 hone0 ?_);rfl;rfl;(intro w9 hh9 hm9;have HH9:=Lib.hid hh9;have HM9:=Lib.hid hm9;clear hh9 hm9);go_frame)
   | fail)
  refine bodyPost_ret (results_cellT rfl _ rfl hag0 (lies_of HH9.out)) rfl ?_
  exact ⟨⟨0,0,0,14,rfl, .inr ⟨HN.out,rfl,rfl,rfl,rfl⟩⟩,HB4.out.trans (HM9.out.below HB4.out.size fun y hy e=>by have h1:=HZ1.out;omega)⟩
end
section
variable {P:Program} {α:Type} {en:α→List Value} {k:Nat} {e t:TypeId}
theorem exec_sliceLH {ρ:Operand→Value} {dst:Option Tmp} {ty:TypeId} {pos:String} {after:Array Edge} {g:Option (Nat×Bool)} {x y z:Operand} {w:World} {ao ad:Option Addr} {len cap lo hi ln cn:Nat} (hu:P.underlying t=some (.slice e)) (hs:(P.info? e).map (·.size)=some k) (hlo:lo≤hi) (hhi:hi≤cap) (had:(if cap=lo then ao else ao.map (·.add (lo*k)))=ad) (hln:hi-lo=ln) (hcn:cap-lo=cn) (hx:ρ x= .slice ao len cap) (hy:ρ y= .int .i64 lo) (hz:ρ z= .int .i64 hi):
  (execOp ρ ⟨dst, .slice t x (some y) (some z) none,ty,pos,after,g⟩).run P w= .ok (.value (.slice ad ln cn)) w:=by
 subst had hln hcn
 have h0:(0:Int)≤(lo:Int)∧(lo:Int)≤(hi:Int):=by omega
 have h1:(0:Int)≤(hi:Int)∧(hi:Int)≤(cap:Int):=by omega
 simp only [execOp,hx,hy,hz,Option.map_some,Option.map_none,Instr.sliceAt,Instr.slice,Instr.sliceBounds,Instr.sliceBound,asIntOf,run_underlying hu,Sem.run_bind,Sem.run_pure,Result.andThen_ok,h0,h1,and_self,if_true,sizeOf_of hs,Int.toNat_natCast]
end
theorem exec_convL {w:World} {v:Value} {bs:List Nat} (h:LSl en8 1 w v bs) {ρ:Operand→Value} {dst:Option Tmp} {ty:TypeId} {pos:String} {after:Array Edge} {g:Option (Nat×Bool)} {x:Operand} (hx:ρ x=v):
  (execOp ρ ⟨dst, .convert 44 9 x,ty,pos,after,g⟩).run Tryz.prog w= .ok (.value (.string (strOfNums (bs.map fun (n:Nat)=>(n:Int))))) w:=by
 simp only [execOp,hx,Sem.run_bind,conv8 w v bs h,Result.andThen_ok,Sem.run_pure]
theorem results_ttt {fn:Func} {t u v:Tmp} (h:fn.results= #[.tmp t, .tmp u, .tmp v]) (tmps:Array Value) {P:Program} {w:World}:(results fn tmps).run P w= .ok (.tuple #[tmps.getD t undef,tmps.getD u undef,tmps.getD v undef]) w:=by
 simp [results,h]
theorem file_str (s:ByteArray):strOfNums ((((fileSec s).drop 1).take s.size).map fun (n:Nat)=>(n:Int))=s:=by
 have h1:((fileSec s).drop 1).take s.size=(bsz s).map (fun (c:UInt8)=>c.toNat):=by
  show ((bsz s).map (fun (c:UInt8)=>c.toNat)++List.replicate (127-s.size) 0).take s.size=_
  rw [List.take_append_of_le_length (by rw [List.length_map,bsz_len];exact Nat.le_refl _)]
  exact List.take_of_length_le (by rw [List.length_map,bsz_len];exact Nat.le_refl _)
 rw [h1]
 unfold strOfNums
 rw [List.map_map,List.map_map]
 have:s.data.toList.map (fun c:UInt8=>UInt8.ofNat ((c.toNat:Nat):Int).toNat)=s.data.toList:=by
  conv=>rhs;rw [←List.map_id s.data.toList]
  refine List.map_congr_left fun c _=> ?_
  simp
 show (⟨(s.data.toList.map (fun c:UInt8=>UInt8.ofNat ((c.toNat:Nat):Int).toNat)).toArray⟩:ByteArray)=s
 rw [this]
section
variable {w w':World} {F FD:Nat→Prop} {s g p:Nat} {l:Lg} {d:Dsk} {M:Sm} {n j:Nat} {V:Nat→List Nat}
def ReadC (M:Sm) (f:Int×Int) (at_:Int) (t:ByteArray) (v c:Nat):Prop:=
 (at_<0∨8≤at_)∧t=emp∧v=0∧c=2∨(0≤at_∧at_<8)∧((M.of f 2).2≠0∧t=emp∧v=0∧c=(M.of f 2).2∨(M.of f 2).2=0∧t=((M.N (M.of f 2).1).D[at_.toNat]?).getD emp∧v=(M.N (M.of f 2).1).ver∧c=0)
theorem Rep.text (h:Rep n V M) {j k:Nat} (hk:(M.N j).kind=2) {q:Nat} (hq:(M.P j)[k]?=some q):
  (q=0→((M.N j).D[k]?).getD emp=emp)∧(q≠0→42≤q∧q<n∧(((M.N j).D[k]?).getD emp).size≤64∧V q=fileSec (((M.N j).D[k]?).getD emp)):=by
 have hW:M.W j k=if ((M.N j).D[k]?).getD emp=emp then none else some (fileSec (((M.N j).D[k]?).getD emp)):=by
  show (M.N j).blk k=_
  unfold Nd.blk
  rw [if_neg (by omega),if_pos hk]
 have hhas:=h.mid.has j k q hq
 rw [hW] at hhas
 refine ⟨fun h0=> ?_,fun h0=> ?_⟩
 ·apply Classical.byContradiction
  intro hne
  rw [if_neg hne] at hhas
  exact absurd h0 (hhas.2 (by simp))
 ·have hne:¬ ((M.N j).D[k]?).getD emp=emp:=fun e=>by
   rw [if_pos e] at hhas
   exact (hhas.1 h0) rfl
  rw [if_neg hne] at hW
  have hlo:=h.mid.lo j q (List.mem_of_getElem? hq) h0
  refine ⟨hlo.1,hlo.2,?_,h.mid.at_ j k q _ hq h0 hW⟩
  rcases (h.nd j).knd with ⟨h1, -⟩|⟨h1, -⟩|⟨-, -,h3⟩
  ·omega
  ·omega
  ·cases hd:(M.N j).D[k]? with
   | none=>rw [hd] at hne;exact absurd rfl hne
   | some x=>exact h3 x (List.mem_of_getElem? hd)
set_option maxRecDepth 20000 in
set_option maxHeartbeats 8000000 in
theorem freadB_any (h:SAt w F FD s g p l d M) (f:Int×Int) (at_:Int):Calls Tryz.prog 27 #[.pointer (some ⟨s,0,none⟩), .agg #[.int .i64 f.1, .int .i64 f.2], .int .i64 at_] w
  fun e w'=>(∃t v c,e= .returned (.tuple #[.string t, .int .u64 (v:Nat), .int .i64 (c:Nat)])∧ReadC M f at_ t v c)∧Below w.heap.size w w':=by
 obtain ⟨w1,hw1⟩: ∃w1,w.alloc (.cells #[.int .i64 f.1, .int .i64 f.2] 33)=w1:=⟨_,rfl⟩
 have hb1:Below w.heap.size w w1:=by rw [←hw1];exact (Below.refl _ _).alloc (Nat.le_refl _) _
 have hX1:w1.heap[w.heap.size]?=some (.cells #[.int .i64 f.1, .int .i64 f.2] 33 (0,0)):=by rw [←hw1];exact heap_alloc_at
 have h2:=h.below hb1
 have hLF:Lies w1 w.heap.size 0 #[.int .i64 f.1, .int .i64 f.2]:=lies_of hX1
 have hagf:=aggFl f.1 f.2
 have hokc:=fsok_any h2.fs
 have hkd:=fkind_any h2 f 2 (by decide)
 rw [show ((2:Nat):Int)=2 from rfl] at hkd
 have HB:=Lib.hid hb1
 have HP:=Lib.hid h.rep
 have H2:=Lib.hid h2
 clear h hb1 hX1 h2
 go_enter Tryz.func27,Tryz.ntmps27
 go_upto_region 1 with fail
 simp only [hw1] at*
 clear hw1
 have hcase:(at_<0)∨(¬ at_<0∧8≤at_)∨(∃k:Nat,at_=k∧k<8):=by
  by_cases h1:at_<0
  ·exact .inl h1
  ·by_cases h2:8≤at_
   ·exact .inr (.inl ⟨h1,h2⟩)
   ·exact .inr (.inr ⟨at_.toNat,by omega,by omega⟩)
 rcases hcase with hlt|⟨hge,h8⟩|⟨k,rfl,hk8⟩
 ·go_wp2_with (first
   | (go_at_call 71;refine hokc.mono ?_;rintro e wt ⟨rfl,hw⟩;obtain rfl:=hw.symm;clear hw)
   | fail)
  refine bodyPost_ret (results_ttt rfl _) rfl ?_
  exact ⟨⟨_,0,2,rfl, .inl ⟨.inl hlt,rfl,rfl,rfl⟩⟩,HB.out⟩
 ·go_wp2_with (first
   | (go_at_call 71;refine hokc.mono ?_;rintro e wt ⟨rfl,hw⟩;obtain rfl:=hw.symm;clear hw)
   | fail)
  refine bodyPost_ret (results_ttt rfl _) rfl ?_
  exact ⟨⟨_,0,2,rfl, .inl ⟨.inr h8,rfl,rfl,rfl⟩⟩,HB.out⟩
 ·have hk0:¬ (k:Int)<0:=by omega
  have hk8':¬ (8:Int)≤(k:Int):=by omega
  have hk8'':(k:Int)<8:=by omega
  have HKR:=Lib.hid (show (0:Int)≤(k:Int)∧(k:Int)<8 by omega)
  go_upto_region 3 with (first
   | (go_at_call 71;refine hokc.mono ?_;rintro e wt ⟨rfl,hw⟩;obtain rfl:=hw.symm;clear hw)
   | fail)
  clear hokc
  go_wp2_with (first
   | ((with_reducible refine wpList_loadA hagf hLF ?_ ?_);rfl;go_frame)
   | fail)
  refine hkd.mono ?_
  rintro e w3 ⟨⟨x,hx8,hxj,rfl⟩,hb3⟩
  have hag:=aggI hx8
  have hone:=inoC_one x
  have hsz11:(inoC x).size=11:=inoC_size hx8
  have hb3':=HB.out.trans (hb3.mono HB.out.size)
  obtain ⟨w4,hw4⟩: ∃w4,w3.alloc (.cells (inoC x) 52)=w4:=⟨_,rfl⟩
  have hb4:Below w3.heap.size w3 w4:=by rw [←hw4];exact (Below.refl _ _).alloc (Nat.le_refl _) _
  have hX4:w4.heap[w3.heap.size]?=some (.cells (inoC x) 52 (0,0)):=by rw [←hw4];exact heap_alloc_at
  have H4:=Lib.hid ((H2.out.below hb3).below hb4)
  have HB4:=Lib.hid (hb3'.trans (hb4.mono hb3'.size))
  have HX4:=Lib.hid hX4
  have HX8:=Lib.hid hx8
  have HXJ:=Lib.hid hxj
  obtain ⟨c,hc⟩: ∃c,(M.of f 2).2=c:=⟨_,rfl⟩
  rw [hc]
  have HC:=Lib.hid hc
  clear hkd hb3 hb3' hb4 hX4 hx8 hLF hxj hc
  go_upto_region 4 with (first
   | ((with_reducible refine wpList_storeA_new hag ?_ hone ?_ ?_ ?_);(rw [hsz11];rfl);rfl;rfl;go_frame)
   | fail)
  simp only [hw4] at*
  clear hw4
  by_cases hc0:c=0
  ·subst hc0
   have hxx:=HXJ.out HC.out
   have hkk:=(of_0 HC.out).2
   obtain ⟨q,hq⟩: ∃q,x.bl[k]?=some q:=⟨_,List.getElem?_eq_getElem (by rw [HX8.out];exact hk8)⟩
   have hqP:(M.P (M.of f 2).1)[k]?=some q:=by rw [hxx] at hq;exact hq
   have htx:=HP.out.text hkk hqP
   have hver:x.ver=(M.N (M.of f 2).1).ver:=by rw [hxx];rfl
   obtain ⟨D,hD⟩: ∃D,((M.N (M.of f 2).1).D[k]?).getD emp=D:=⟨_,rfl⟩
   rw [hD] at htx
   have q2:w4.cell? ⟨w3.heap.size,2,none⟩=some (.int .u64 (x.ver:Nat)):=cell_of HX4.out rfl
   have q3:w4.cell? ⟨w3.heap.size,3+k,none⟩=some (.int .i64 (q:Nat)):=by
    refine cell_of HX4.out ?_
    unfold inoC inoL
    rw [List.getElem?_toArray,show 3+k=k+3 by omega]
    show (x.bl.map fun p=>Value.int .i64 (p:Nat))[k]?=_
    rw [List.getElem?_map,hq]
    rfl
   have HTX:=Lib.hid htx
   have HV:=Lib.hid hver
   have HD:=Lib.hid hD
   have HQ:=Lib.hid hq
   clear hxx hkk hq hqP htx hver hD
   by_cases hq0:q=0
   ·have hqe:((q:Int)==0)=true:=by rw [hq0];rfl
    have HE:=Lib.hid (HTX.out.1 hq0)
    clear hq0
    go_upto_region 7 with fail
    have hS:w4.drew.cell? ⟨w3.heap.size,2,none⟩=some (.int .u64 (x.ver:Nat)):=q2
    refine wp_region_x (fun w'=>w'.cell? ⟨w3.heap.size,2,none⟩=some (.int .u64 (x.ver:Nat))) [(0,1),(1,0),(2,1),(3,1),(4,1)] (by kernel_rfl) (by kernel_rfl) (by intro d v c a w h;cases d<;>exact h) ?_
    iterate 1 (refine x_take rfl (fun K hK=> ?_);go_simp;refine hK _ ?_;clear hK K)
    refine x_read rfl hS (fun w' h=>exec_load1 ⟨⟨_,Tryz.underlying37,rfl⟩⟩ rfl h) ?_
    iterate 3 (refine x_take rfl (fun K hK=> ?_);go_simp;refine hK _ ?_;clear hK K)
    refine x_nil ?_
    go_wp2
    refine bodyPost_ret (results_ttt rfl _) rfl ?_
    exact ⟨⟨_,x.ver,0,rfl, .inr ⟨HKR.out, .inr ⟨HC.out,by rw [Int.toNat_natCast,HD.out,HE.out];rfl,HV.out,rfl⟩⟩⟩,HB4.out.drew⟩
   ·have hqe:((q:Int)==0)=false:=by simp;omega
    obtain ⟨hq42,hqn,hD64,hVq⟩:=HTX.out.2 hq0
    have hr:=H4.out.below (Below.refl w4.heap.size w4).drew
    have hrd:=gread_any hr.fs.log hr.fs.disk hr.ok q hqn
    have HVQ:=Lib.hid hVq
    have HR:=Lib.hid hr
    clear hq0 hq42 hqn hVq hr
    go_upto_region 8 with fail
    have hS:w4.drew.cell? ⟨s,0,none⟩=some (.pointer (some ⟨g,0,none⟩))∧w4.drew.cell? ⟨w3.heap.size,3+k,none⟩=some (.int .i64 (q:Nat)):=⟨HR.out.fs.c,q3⟩
    refine wp_region_x (fun w'=>w'.cell? ⟨s,0,none⟩=some (.pointer (some ⟨g,0,none⟩))∧w'.cell? ⟨w3.heap.size,3+k,none⟩=some (.int .i64 (q:Nat))) [(0,1),(1,1),(2,1),(3,0),(4,1),(5,1),(6,1),(7,0),(8,2),(9,1),(10,1),(11,1),(12,1),(13,1)] (by kernel_rfl) (by kernel_rfl) (by intro d v c a w h;cases d<;>exact h) ?_
    iterate 3 (refine x_take rfl (fun K hK=> ?_);go_simp;refine hK _ ?_;clear hK K)
    refine x_read rfl hS (fun w' h=>exec_load1 ⟨⟨_,Tryz.underlying41,rfl⟩⟩ rfl h.1) ?_
    iterate 3 (refine x_take rfl (fun K hK=> ?_);go_simp;refine hK _ ?_;clear hK K)
    refine x_read rfl hS (fun w' h=>exec_load1 ⟨⟨_,Tryz.underlying3,rfl⟩⟩ rfl h.2) ?_
    refine x_show' rfl (fun K hK=> ?_)
    go_simp
    refine hrd.mono ?_
    rintro e w5 ⟨v5,rfl,hR5,hb5⟩
    have hb45:Below w4.heap.size w4 w5:=(Below.refl _ w4).drew.trans hb5
    have hX5:=(hb45.block _ (lt_of_block HX4.out)).trans HX4.out
    have h5:=HR.out.below hb5
    have q25:w5.cell? ⟨w3.heap.size,2,none⟩=some (.int .u64 (x.ver:Nat)):=cell_of hX5 rfl
    refine hK _ _ ⟨h5.fs.c,?_⟩ ?_
    ·refine cell_of hX5 ?_
     have h1:w4.cell? ⟨w3.heap.size,3+k,none⟩=some (.int .i64 (q:Nat)):=q3
     unfold inoC inoL
     rw [List.getElem?_toArray,show 3+k=k+3 by omega]
     show (x.bl.map fun p=>Value.int .i64 (p:Nat))[k]?=_
     rw [List.getElem?_map,HQ.out]
     rfl
    clear hK K
    iterate 5 (refine x_take rfl (fun K hK=> ?_);go_simp;refine hK _ ?_;clear hK K)
    refine x_nil ?_
    have hsl:=hR5.sl
    rw [HVQ.out] at hsl
    have hlen:(fileSec D).length=128:=fileSec_len (by omega)
    have HSL:=Lib.hid hsl
    obtain ⟨ao,cap,rfl,hcap, -,hcell⟩:=hsl
    obtain ⟨b,off,rfl, -,hcl⟩:=hcell (by omega)
    have q5:w5.cell? ⟨b,off,none⟩=some (.int .u8 (D.size:Nat)):=hcl 0 D.size rfl 0 (by show 0<1;decide)
    have HSL2:=Lib.hid HSL.out
    rw [hlen] at hcap HSL2
    have HLEN:=Lib.hid hlen
    have HB5:=Lib.hid (HB4.out.trans (hb45.mono HB4.out.size))
    have H5:=Lib.hid h5
    have hD0:(D.size:Int)≤64:=by omega
    clear hS hrd hR5 hb5 hb45 hX5 h5 hcell hcl hlen q2 q3
    generalize hfl:(fileSec D).length=fl at*
    obtain rfl:128=fl:=HLEN.out.symm
    obtain ⟨ad,had⟩: ∃ad,(if cap=1 then some (⟨b,off,none⟩:Addr) else (some (⟨b,off,none⟩:Addr)).map (·.add (1*1)))=ad:=⟨_,rfl⟩
    obtain ⟨cn,hcn⟩: ∃cn,cap-1=cn:=⟨_,rfl⟩
    have hsubs: ∀w',LSl en8 1 w' (.slice (some ⟨b,off,none⟩) 128 cap) (fileSec D)→LSl en8 1 w' (.slice ad D.size cn) (((fileSec D).drop 1).take D.size):=fun w' h=>LSl.take (h.drop2 (i:=1) (by rw [hfl];decide) had rfl hcn) (by rw [List.length_drop,hfl];omega)
    have hmin:min (D.size:Int) 64=(D.size:Int):=by omega
    have HSL3: ∀{w:World} {ρ:Operand→Value} {dst:Option Tmp} {ty:TypeId} {pos:String} {after:Array Edge} {g':Option (Nat×Bool)} {x y z:Operand},ρ x= .slice (some ⟨b,off,none⟩) 128 cap→ρ y= .int .i64 1→ρ z= .int .i64 (1+(D.size:Int))→(execOp ρ ⟨dst, .slice 44 x (some y) (some z) none,ty,pos,after,g'⟩).run Tryz.prog w= .ok (.value (.slice ad D.size cn)) w:=fun hx hy hz=>exec_sliceLH (lo:=1) (hi:=1+D.size) (ln:=D.size) Tryz.underlying44 sizeU8 (by omega) (by omega) had (by omega) hcn hx hy (by rw [hz,show ((1+D.size:Nat):Int)=1+(D.size:Int) by omega])
    go_upto_region 12 with fail
    have hS:LSl en8 1 w5.drew (.slice (some ⟨b,off,none⟩) 128 cap) (fileSec D)∧w5.drew.cell? ⟨w3.heap.size,2,none⟩=some (.int .u64 (x.ver:Nat)):=⟨HSL2.out,q25⟩
    refine wp_region_x (fun w'=>LSl en8 1 w' (.slice (some ⟨b,off,none⟩) 128 cap) (fileSec D)∧w'.cell? ⟨w3.heap.size,2,none⟩=some (.int .u64 (x.ver:Nat))) [(0,1),(1,1),(2,1),(3,0),(4,0),(5,1),(6,0),(7,1),(8,1),(9,1)] (by kernel_rfl) (by kernel_rfl) (by intro d v c a w h;cases d<;>exact h) ?_
    iterate 3 (refine x_take rfl (fun K hK=> ?_);go_simp;refine hK _ ?_;clear hK K)
    try rw [hmin]
    rw [show IntKind.i64.wrap (1+(D.size:Int))=1+(D.size:Int) from IntWalk.i64_in _ (by omega)]
    refine x_read rfl hS (fun w' h=>HSL3 rfl rfl rfl) ?_
    refine x_read rfl hS (fun w' h=>exec_convL (hsubs _ h.1) rfl) ?_
    rw [file_str]
    iterate 1 (refine x_take rfl (fun K hK=> ?_);go_simp;refine hK _ ?_;clear hK K)
    refine x_read rfl hS (fun w' h=>exec_load1 ⟨⟨_,Tryz.underlying37,rfl⟩⟩ rfl h.2) ?_
    iterate 3 (refine x_take rfl (fun K hK=> ?_);go_simp;refine hK _ ?_;clear hK K)
    refine x_nil ?_
    go_wp2
    refine bodyPost_ret (results_ttt rfl _) rfl ?_
    exact ⟨⟨D,x.ver,0,rfl, .inr ⟨HKR.out, .inr ⟨HC.out,by rw [Int.toNat_natCast,HD.out],HV.out,rfl⟩⟩⟩,HB5.out.drew⟩
  ·have hcc:((c:Int) !=0)=true:=bne_iff_ne.2 (by omega)
   have HC0:=Lib.hid hc0
   clear hc0
   go_wp2
   refine bodyPost_ret (results_ttt rfl _) rfl ?_
   exact ⟨⟨_,0,c,rfl, .inr ⟨HKR.out, .inl ⟨by rw [HC.out];exact HC0.out,rfl,rfl,HC.out.symm⟩⟩⟩,HB4.out⟩
end
section
variable {w w':World} {G:Nat→Prop} {c s n:Nat} {T:Nat→Bool} {H:Nat→Option (List Nat)} {err:Nat}
def failE (err e:Nat):Nat:=if err=0 then e else err
theorem ffail_any (h:ChAt w G c s n T H err) (e:Nat):Calls Tryz.prog 133 #[.pointer (some ⟨c,0,none⟩), .int .i64 (e:Nat)] w
  fun e' w'=>e'= .returned (.tuple #[])∧ChAt w' G c s n T H (failE err e)∧Mod (fun x=>x=c) w w':=by
 obtain ⟨m,mm,L,clk,k1,k2,k3,k4,k5,k6,k7,k8⟩:=h.ex
 have p3:=cell_of (o:=3) k1 rfl
 have f3:w.frozen? ⟨c,3,none⟩=false:=free_of k1
 have HC:=Lib.hid h
 have K1:=Lib.hid k1
 have fin: ∀w3:World,w3.heap[c]?=some (.cells #[.pointer (some ⟨s,0,none⟩), .pointer (some ⟨m,0,none⟩), .map (some mm), .int .i64 (failE err e:Nat)] 207 (0,0))→Mod (fun x=>x=c) w w3→ChAt w3 G c s n T H (failE err e):=fun w3 h1 h2=>
  ⟨⟨m,mm,L,clk,h1,k2.mod h2 (fun e=>k4 e),⟨h2.heap k3.blk (fun e=>k5 e),k3.wf,fun x hx=>by
   obtain ⟨j,a1,b,a2,a3,a4⟩:=k3.key x hx
   exact ⟨j,a1,b,a2,a3.kept h2.size fun r hr=>h2.block r (a3.lt r hr) (fun e=>(k8 x hx).1 (by rw [hr,show r=c from e])),a4⟩,k3.all,k3.fm⟩,k4,k5,k6,k7,k8⟩,h.gc,fun b hb=>Nat.lt_of_lt_of_le (h.lt b hb) h2.size⟩
 have HFIN:=Lib.hid fin
 clear h k1 k2 k3 k4 k5 k6 k7 k8 fin
 by_cases h0:err=0
 ·subst h0
  go_enter Tryz.func133,Tryz.ntmps133
  go_wp2
  go_end0
  have hm:=(Mod.refl (fun x=>x=c) w).setCell ⟨c,3,none⟩ (.int .i64 (e:Nat)) (fun _=>rfl)
  exact ⟨rfl,HFIN.out _ (by rw [heap_setCell_at K1.out];rfl) hm,hm⟩
 ·have hz:((err:Int)==0)=false:=by simp;omega
  have HE:failE err e=err:=if_neg h0
  have HH:=Lib.hid HE
  clear h0 HE
  go_enter Tryz.func133,Tryz.ntmps133
  go_wp2
  go_end0
  rw [HH.out]
  exact ⟨rfl,HC.out,Mod.refl _ _⟩
def delH (H:Nat→Option (List Nat)) (k:Nat):Nat→Option (List Nat):=fun j=>if j=k then none else H j
theorem HAt.put {w3:World} {m clk:Nat} {L:Ents Int} (hH:HAt w G m L clk H) {k:Nat} {v:Value} {b:List Nat} (hv:LRd en8 1 0 w v b) (hne: ∀r,v.ownBlock=some r→r≠m)
  (hh3:w3.heap[m]?=some (.map (ents encI (Go.Tn.upd ((k:Nat):Int) v L clk)) (updClk ((k:Nat):Int) L clk))) (hwf3:WF (Go.Tn.upd ((k:Nat):Int) v L clk) (updClk ((k:Nat):Int) L clk)) (hm3:Mod (fun x=>x=m) w w3):
  HAt w3 (fun x=>G x∨v.ownBlock=some x) m (Go.Tn.upd ((k:Nat):Int) v L clk) (updClk ((k:Nat):Int) L clk) (putH H k b):=by
 refine ⟨hh3,hwf3,fun e he=> ?_,fun j hj=> ?_, .inl hH.fm⟩
 ·rcases mem_upd hH.wf he with ⟨he1,hne'⟩|⟨he1,he2, -⟩
  ·obtain ⟨j,hj1,b',hj2,hj3,hj4⟩:=hH.key e he1
   refine ⟨j,hj1,b',?_,?_,fun r hr=>⟨.inl (hj4 r hr).1,(hj4 r hr).2⟩⟩
   ·unfold putH
    rw [if_neg (fun e'=>hne' (by rw [hj1,e']))]
    exact hj2
   ·exact hj3.kept hm3.size fun r hr=>hm3.block r (hj3.lt r hr) (hj4 r hr).2
  ·refine ⟨k,he1,b,?_,?_,fun r hr=> ?_⟩
   ·unfold putH
    rw [if_pos rfl]
   ·rw [he2]
    exact hv.kept hm3.size fun r hr=>hm3.block r (hv.lt r hr) (hne r hr)
   ·rw [he2] at hr
    exact ⟨.inr hr,hne r hr⟩
 ·have hg:=get_upd (j:=(j:Int)) (k:=((k:Nat):Int)) (v:=v) hH.wf
  have hne:get (j:Int) (Go.Tn.upd ((k:Nat):Int) v L clk)≠none:=by
   rw [hg]
   by_cases hja:(j:Int)=(k:Nat)
   ·rw [if_pos hja]
    exact fun e=>by cases e
   ·rw [if_neg hja]
    unfold putH at hj
    rw [if_neg (fun e=>hja (by rw [e]))] at hj
    obtain ⟨e,he,hej⟩:=hH.all j hj
    exact fun hn=>get_none.1 hn e he hej
  cases hgo:get (j:Int) (Go.Tn.upd ((k:Nat):Int) v L clk) with
  | none=>exact absurd hgo hne
  | some u=>
   obtain ⟨b',hb'⟩:=get_some hgo
   exact ⟨_,hb',rfl⟩
theorem HAt.less {w3:World} {m clk:Nat} {L:Ents Int} (hH:HAt w G m L clk H) (k:Nat)
  (hh3:w3.heap[m]?=some (.map (ents encI (Go.Tn.del ((k:Nat):Int) L)) clk)) (hm3:Mod (fun x=>x=m) w w3):
  HAt w3 G m (Go.Tn.del ((k:Nat):Int) L) clk (delH H k):=by
 refine ⟨hh3,hH.wf.del,fun e he=> ?_,fun j hj=> ?_,hH.fm⟩
 ·obtain ⟨he1,hne⟩:=(mem_del hH.wf).1 he
  obtain ⟨j,hj1,b',hj2,hj3,hj4⟩:=hH.key e he1
  refine ⟨j,hj1,b',?_,hj3.kept hm3.size fun r hr=>hm3.block r (hj3.lt r hr) (hj4 r hr).2,hj4⟩
  unfold delH
  rw [if_neg (fun e'=>hne (by rw [hj1,e']))]
  exact hj2
 ·unfold delH at hj
  by_cases hjk:j=k
  ·rw [if_pos hjk] at hj
   exact absurd rfl hj
  ·rw [if_neg hjk] at hj
   obtain ⟨e,he,hej⟩:=hH.all j hj
   exact ⟨e,(mem_del hH.wf).2 ⟨he,fun e'=>hjk (by rw [hej] at e';exact Int.ofNat.inj e')⟩,hej⟩
structure ChIn (w:World) (G:Nat→Prop) (c s n:Nat) (T:Nat→Bool) (H:Nat→Option (List Nat)) (err m mm clk:Nat) (L:Ents Int):Prop where
 blk:w.heap[c]?=some (.cells #[.pointer (some ⟨s,0,none⟩), .pointer (some ⟨m,0,none⟩), .map (some mm), .int .i64 (err:Nat)] 207 (0,0))
 map:Al.MapAt w m n T
 hom:HAt w G mm L clk H
 mc:m≠c
 mmc:mm≠c
 mmm:mm≠m
 gm:G m
 own: ∀e∈L,e.2.1.ownBlock≠some c∧e.2.1.ownBlock≠some m
 gc:G c
 lt: ∀b,G b→b<w.heap.size
theorem ChAt.inn (h:ChAt w G c s n T H err): ∃m mm clk L,ChIn w G c s n T H err m mm clk L:=by
 obtain ⟨m,mm,L,clk,h1,h2,h3,h4,h5,h6,h7,h8⟩:=h.ex
 exact ⟨m,mm,clk,L,h1,h2,h3,h4,h5,h6,h7,h8,h.gc,h.lt⟩
section
variable {w3:World} {m mm clk:Nat} {L:Ents Int}
theorem ChIn.at_ (h:ChIn w G c s n T H err m mm clk L):ChAt w G c s n T H err:=⟨⟨m,mm,L,clk,h.blk,h.map,h.hom,h.mc,h.mmc,h.mmm,h.gm,h.own⟩,h.gc,h.lt⟩
theorem ChIn.kept (h:ChIn w G c s n T H err m mm clk L) (hs:w.heap.size≤w'.heap.size) (hb: ∀b,G b→w'.heap[b]?=w.heap[b]?):ChIn w' G c s n T H err m mm clk L:=
 ⟨(hb c h.gc).trans h.blk,⟨(hb m h.gm).trans h.map.blk,h.map.pos,h.map.le,h.map.out⟩,h.hom.kept hs hb,h.mc,h.mmc,h.mmm,h.gm,h.own,h.gc,fun b hG=>Nat.lt_of_lt_of_le (h.lt b hG) hs⟩
theorem ChIn.below (h:ChIn w G c s n T H err m mm clk L) (hb:Below w.heap.size w w'):ChIn w' G c s n T H err m mm clk L:=h.kept hb.size fun b hG=>hb.block b (h.lt b hG)
theorem ChIn.mod {S:Nat→Prop} (h:ChIn w G c s n T H err m mm clk L) (hm:Mod S w w') (hS: ∀b,G b→¬ S b):ChIn w' G c s n T H err m mm clk L:=h.kept hm.size fun b hG=>hm.block b (h.lt b hG) (hS b hG)
theorem ChIn.turn {T':Nat→Bool} (h:ChIn w G c s n T H err m mm clk L) (hM:Al.MapAt w3 m n T') (hm:Mod (fun x=>x=m) w w3):ChIn w3 G c s n T' H err m mm clk L:=
 ⟨hm.heap h.blk (fun e=>h.mc e.symm),hM,⟨hm.heap h.hom.blk h.mmm,h.hom.wf,fun x hx=>by
  obtain ⟨j,a1,b,a2,a3,a4⟩:=h.hom.key x hx
  exact ⟨j,a1,b,a2,a3.kept hm.size fun r hr=>hm.block r (a3.lt r hr) (fun e=>(h.own x hx).2 (by rw [hr,show r=m from e])),a4⟩,h.hom.all,h.hom.fm⟩,h.mc,h.mmc,h.mmm,h.gm,h.own,h.gc,fun b hb=>Nat.lt_of_lt_of_le (h.lt b hb) hm.size⟩
theorem ChIn.putI (h:ChIn w G c s n T H err m mm clk L) {k:Nat} {v:Value} {b:List Nat} (hv:LRd en8 1 0 w v b) (hne: ∀r,v.ownBlock=some r→r≠c∧r≠m∧r≠mm)
  (hh3:w3.heap[mm]?=some (.map (ents encI (Go.Tn.upd ((k:Nat):Int) v L clk)) (updClk ((k:Nat):Int) L clk))) (hwf3:WF (Go.Tn.upd ((k:Nat):Int) v L clk) (updClk ((k:Nat):Int) L clk)) (hm3:Mod (fun x=>x=mm) w w3):
  ChIn w3 (fun x=>G x∨v.ownBlock=some x) c s n T (putH H k b) err m mm (updClk ((k:Nat):Int) L clk) (Go.Tn.upd ((k:Nat):Int) v L clk):=by
 refine ⟨hm3.heap h.blk (fun e=>h.mmc e.symm),h.map.mod hm3 (fun e=>h.mmm e.symm),h.hom.put hv (fun r hr=>(hne r hr).2.2) hh3 hwf3 hm3,h.mc,h.mmc,h.mmm, .inl h.gm,fun e he=> ?_, .inl h.gc,fun x hx=> ?_⟩
 ·rcases mem_upd h.hom.wf he with ⟨he1, -⟩|⟨-,he2, -⟩
  ·exact h.own e he1
  ·rw [he2]
   exact ⟨fun e=>(hne _ e).1 rfl,fun e=>(hne _ e).2.1 rfl⟩
 ·rcases hx with hx|hx
  ·exact Nat.lt_of_lt_of_le (h.lt x hx) hm3.size
  ·exact Nat.lt_of_lt_of_le (hv.lt x hx) hm3.size
theorem ChIn.less (h:ChIn w G c s n T H err m mm clk L) (k:Nat)
  (hh3:w3.heap[mm]?=some (.map (ents encI (Go.Tn.del ((k:Nat):Int) L)) clk)) (hm3:Mod (fun x=>x=mm) w w3):
  ChIn w3 G c s n T (delH H k) err m mm clk (Go.Tn.del ((k:Nat):Int) L):=
 ⟨hm3.heap h.blk (fun e=>h.mmc e.symm),h.map.mod hm3 (fun e=>h.mmm e.symm),h.hom.less k hh3 hm3,h.mc,h.mmc,h.mmm,h.gm,fun e he=>h.own e ((mem_del h.hom.wf).1 he).1,h.gc,fun x hx=>Nat.lt_of_lt_of_le (h.lt x hx) hm3.size⟩
theorem ChIn.wide {S:Nat→Prop} (h:ChIn w G c s n T H err m mm clk L) (hS: ∀y,S y→y<w.heap.size):ChIn w (fun y=>G y∨S y) c s n T H err m mm clk L:=
 ⟨h.blk,h.map,⟨h.hom.blk,h.hom.wf,fun e he=>by
  obtain ⟨j,a1,b,a2,a3,a4⟩:=h.hom.key e he
  exact ⟨j,a1,b,a2,a3,fun r hr=>⟨.inl (a4 r hr).1,(a4 r hr).2⟩⟩,h.hom.all, .inl h.hom.fm⟩,h.mc,h.mmc,h.mmm, .inl h.gm,h.own, .inl h.gc,fun b hb=>hb.elim (h.lt b) (hS b)⟩
theorem ffailI_any (h:ChIn w G c s n T H err m mm clk L) (e:Nat):Calls Tryz.prog 133 #[.pointer (some ⟨c,0,none⟩), .int .i64 (e:Nat)] w
  fun e' w'=>e'= .returned (.tuple #[])∧ChIn w' G c s n T H (failE err e) m mm clk L∧Mod (fun x=>x=c) w w':=by
 have p3:=cell_of (o:=3) h.blk rfl
 have f3:w.frozen? ⟨c,3,none⟩=false:=free_of h.blk
 have HC:=Lib.hid h
 have fin: ∀w3:World,w3.heap[c]?=some (.cells #[.pointer (some ⟨s,0,none⟩), .pointer (some ⟨m,0,none⟩), .map (some mm), .int .i64 (failE err e:Nat)] 207 (0,0))→Mod (fun x=>x=c) w w3→ChIn w3 G c s n T H (failE err e) m mm clk L:=fun w3 h1 h2=>
  ⟨h1,h.map.mod h2 (fun e=>h.mc e),⟨h2.heap h.hom.blk (fun e=>h.mmc e),h.hom.wf,fun x hx=>by
   obtain ⟨j,a1,b,a2,a3,a4⟩:=h.hom.key x hx
   exact ⟨j,a1,b,a2,a3.kept h2.size fun r hr=>h2.block r (a3.lt r hr) (fun e=>(h.own x hx).1 (by rw [hr,show r=c from e])),a4⟩,h.hom.all,h.hom.fm⟩,h.mc,h.mmc,h.mmm,h.gm,h.own,h.gc,fun b hb=>Nat.lt_of_lt_of_le (h.lt b hb) h2.size⟩
 have HFIN:=Lib.hid fin
 clear h fin
 by_cases h0:err=0
 ·subst h0
  go_enter Tryz.func133,Tryz.ntmps133
  go_wp2
  go_end0
  have hm:=(Mod.refl (fun x=>x=c) w).setCell ⟨c,3,none⟩ (.int .i64 (e:Nat)) (fun _=>rfl)
  exact ⟨rfl,HFIN.out _ (by rw [heap_setCell_at HC.out.blk];rfl) hm,hm⟩
 ·have hz:((err:Int)==0)=false:=by simp;omega
  have HE:failE err e=err:=if_neg h0
  have HH:=Lib.hid HE
  clear h0 HE
  go_enter Tryz.func133,Tryz.ntmps133
  go_wp2
  go_end0
  rw [HH.out]
  exact ⟨rfl,HC.out,Mod.refl _ _⟩
end
end
end Go.Proofs.YtjdbbnhnbdocbaaGreat
