import Derived.Test.YtjdbbnhnbdocbaaGreatMgGon15
import Derived.Test.YtjdbbnhnbdocbaaGreatMgGon4
import Derived.Test.YtjdbbnhnbdocbaaGreatMgGon11
namespace Go.Tn
open Go.RowKit
theorem g_skipS {P:Program} {ops:Array Oper} {Q:Exit→Act→World→Prop} {S:World→Prop} {i:Nat} {r:List (Nat×Nat)} {a:Act} {w:World} {o:Oper} (ho:ops[i]?=some o) (hw:Region.wanted o (yielded ops a.tmps)=true) {w':World} (hr:(execOp a.eval o).run P w= .ok .skip w') (hS:S w') (h:wpG P ops Q S r (a.put o.dst undef) w'):wpG P ops Q S ((i,2)::r) a w:=by
 refine ⟨o,ho, .inr ⟨hw,?_⟩⟩
 simp only [Oper.wp,hr,Oper.upon]
 exact ⟨hS,h⟩
end Go.Tn
namespace Go.Tn.Dk
open Go.Tn.Bt Go.Tn.Lp
def pieceB (d:Dsk) (n c:Nat):Option Pc:=match unsealB (d.get (2+c %n)) with
 | some q=>if q.ct=c then some q else none
 | none=>none
end Go.Tn.Dk
namespace Go.Proofs.YtjdbbnhnbdocbaaGreat
open Go.RowKit Go.Tn Go.Tn.Bt Go.Tn.Lp Go.Tn.Dk
theorem onePc (ep ct:Int) (fi la:Bool) (ao:Option Addr) (n c:Nat):(#[.int .u64 ep, .int .u64 ct, .bool fi, .bool la, .slice ao n c]:Array Value).all (·.oneCell')=true:=by simp [Value.oneCell']
def PieceR (B:Nat) (w':World) (r:Option Pc) (e:Ending):Prop:=match r with
 | some q=> ∃v',e= .returned (.tuple #[.agg (pcCs q v'), .bool true])∧LOut en8 1 5 B w' v' q.da
 | none=> ∃(q:Pc) (a:Option Addr) (n c:Nat),e= .returned (.tuple #[.agg (pcCs q (.slice a n c)), .bool false])
set_option maxRecDepth 20000 in
set_option maxHeartbeats 4000000 in
theorem piece_any {w:World} {F FD:Nat→Prop} {g p:Nat} {l:Lg} {d:Dsk} (h:LAt w F g p l) (hd:DAt w FD p d) (hn2:2≤l.n) (hn:l.n+3≤d.L.length) (c:Nat) (hc:c<2 ^ 63):
  Calls Tryz.prog 169 #[.pointer (some ⟨g,0,none⟩), .int .u64 c] w fun e w'=>Below w.heap.size w w'∧PieceR w.heap.size w' (pieceB d l.n c) e:=by
 have hhi:=hd.ok.hi
 have hlt:=h.lt g h.fg
 have hb0:Below w.heap.size w (w.alloc (.cells #[.int .u64 0, .int .u64 0, .bool false, .bool false, .slice none 0 0] 222)):=(Below.refl _ _).alloc (Nat.le_refl _) _
 have hz0:(w.alloc (.cells #[.int .u64 0, .int .u64 0, .bool false, .bool false, .slice none 0 0] 222)).heap.size=w.heap.size+1:=by simp
 have hh0:(w.alloc (.cells #[.int .u64 0, .int .u64 0, .bool false, .bool false, .slice none 0 0] 222)).heap[w.heap.size]?=some (.cells #[.int .u64 0, .int .u64 0, .bool false, .bool false, .slice none 0 0] 222 (0,0)):=heap_alloc_at
 have hix:2+c %l.n<d.L.length:=by have:=Nat.mod_lt c (show 0<l.n by omega);omega
 have hpl:=gplace_any ((h.below hb0).below (Below.refl _ _).drew) hn2 (by omega) c hc
 have hrd:=dread_any ((hd.below hb0).below (Below.refl _ _).drew) (2+c %l.n) hix
 have hsec:=hd.ok.get hix
 obtain ⟨m,L,clk,hb, -⟩:=h.ex
 have hS:(w.alloc (.cells #[.int .u64 0, .int .u64 0, .bool false, .bool false, .slice none 0 0] 222)).drew.cell? ⟨g,0,none⟩=some (.pointer (some ⟨p,0,none⟩)):=(hb0.cell (p:=⟨g,0,none⟩) hlt).trans (cell_of (o:=0) hb rfl)
 have hE:pieceB d l.n c=match unsealB (d.get (2+c %l.n)) with|some q=>if q.ct=c then some q else none|none=>none:=rfl
 have HE:=Lib.hid hE
 have HB0:=Lib.hid hb0
 have HH0:=Lib.hid hh0
 have HZ0:=Lib.hid hz0
 have HSEC:=Lib.hid hsec
 generalize d.get (2+c %l.n)=bs at*
 generalize 2+c %l.n=ix at*
 generalize pieceB d l.n c=R at*
 have hc63:(c:Int)<9223372036854775808:=by omega
 clear hb0 hh0 hz0 h hd hb hE hsec hix
 go_enter Tryz.func169,Tryz.ntmps169
 go_upto_region 1 with fail
 generalize w.alloc (.cells #[.int .u64 0, .int .u64 0, .bool false, .bool false, .slice none 0 0] 222)=w0 at*
 refine wp_region_x (fun w'=>w'.cell? ⟨g,0,none⟩=some (.pointer (some ⟨p,0,none⟩))) [(0,1),(1,1),(2,1),(3,0),(4,1),(5,1),(6,2),(7,2),(8,1),(9,1),(10,1),(11,1),(12,1)] (by kernel_rfl) (by kernel_rfl) (by intro d v c a w h;cases d<;>exact h) ?_
 iterate 3 (refine x_take rfl (fun K hK=> ?_);go_simp;refine hK _ ?_;clear hK K)
 refine x_read rfl hS (fun w' h=>exec_load1 ⟨⟨_,Tryz.underlying25,rfl⟩⟩ rfl h) ?_
 iterate 2 (refine x_take rfl (fun K hK=> ?_);go_simp;refine hK _ ?_;clear hK K)
 refine x_show' rfl (fun K hK=> ?_)
 go_simp
 refine hpl.mono ?_
 rintro e w2 ⟨rfl,hw⟩
 obtain rfl:=hw.symm
 refine hK _ _ hS ?_
 clear hK K hw
 refine x_show' rfl (fun K hK=> ?_)
 go_simp
 refine hrd.mono ?_
 rintro e w2 ⟨v,rfl,hv,hb2⟩
 have hu:=unseal_any w2 v bs hv.sl HSEC.out.2
 obtain ⟨va,vc,rfl, -⟩:=hv.sl
 have hz0':w0.drew.heap.size=w.heap.size+1:=HZ0.out
 rw [hz0'] at hb2
 have HB2:Hid (Below (w.heap.size+1) w0 w2):=Lib.hid ((Below.refl _ _).drew.trans hb2)
 refine hK _ _ ((hb2.cell (p:=⟨g,0,none⟩) (by show g<_;omega)).trans hS) ?_
 clear hK K hv hb2 hS hrd hpl hz0'
 iterate 5 (refine x_take rfl (fun K hK=> ?_);go_simp;refine hK _ ?_;clear hK K)
 refine x_nil ?_
 go_wp2_with fail
 refine hu.mono ?_
 rintro e w3 ⟨hb3,hR⟩
 have HB3:Hid (Below (w.heap.size+1) w0 w3):=Lib.hid (HB2.out.trans (hb3.mono (by have:=HB2.out.size;rw [HZ0.out] at this;omega)))
 have hz3:w.heap.size+1≤w3.heap.size:=by have:=HB3.out.size;rw [HZ0.out] at this;exact this
 have hz2:w.heap.size+1≤w2.heap.size:=by have:=HB2.out.size;rw [HZ0.out] at this;exact this
 clear hb3 hu
 -- what follows,the piece in hand
 have hq: ∀(ep ct:Nat) (fi la:Bool) (a4:Option Addr) (n4 c4:Nat),(w3.alloc (.cells #[.int .u64 (ep:Nat), .int .u64 (ct:Nat), .bool fi, .bool la, .slice a4 n4 c4] 222)).drew.heap[w.heap.size]?=some (.cells #[.int .u64 0, .int .u64 0, .bool false, .bool false, .slice none 0 0] 222 (0,0)):=fun ep ct fi la a4 n4 c4=>heap_alloc_of ((HB3.out.block w.heap.size (by omega)).trans HH0.out)
 have HQ:=Lib.hid hq
 clear hq
 cases hcu:unsealB bs with
 | none=>
  have HE2:Hid (R=none):=Lib.hid (by rw [HE.out,hcu])
  rw [hcu] at hR
  simp only at hR
  subst hR
  clear hcu
  have hbox:(w3.alloc (.cells #[.int .u64 0, .int .u64 0, .bool false, .bool false, .slice none 0 0] 222)).drew.heap[w3.heap.size]?=some (.cells #[.int .u64 0, .int .u64 0, .bool false, .bool false, .slice none 0 0] 222 (0,0)):=heap_alloc_at
  have hS:=lies_of hbox
  obtain ⟨w9,hr9,hh9,hm9⟩:=exec_storeB (P:=Tryz.prog) (ρ:=fun _=>undef) (ty:=0) (pos:= "") (after:= #[]) (x:= .tmp 0) (y:= .tmp 0) (aggPc 0 0 false false (.slice none 0 0)) (HQ.out 0 0 false false none 0 0) rfl (onePc _ _ _ _ _ _ _)
  have hB9:Below w.heap.size w w9:=HB0.out.trans (((HB3.out.mono (Nat.le_succ _)).alloc (by omega) _).drew.trans (hm9.below (by simp;omega) fun x hx e=>by omega))
  go_upto_region 5 with fail
  refine wp_region_g (fun w'=>Lies w' w3.heap.size 0 #[.int .u64 0, .int .u64 0, .bool false, .bool false, .slice none 0 0]) [(0,0),(1,1),(2,1),(3,1),(4,1),(5,0),(6,1),(7,1),(8,1),(9,2),(10,1)] (by kernel_rfl) (by kernel_rfl) (by intro d v c a w h;cases d<;>exact h) ?_
  refine g_read rfl rfl hS (fun w' h=>exec_loadA (aggPc _ _ _ _ _) rfl h) ?_
  iterate 3 (refine g_take rfl rfl (fun K hK=> ?_);go_simp;refine hK _ ?_;clear hK K)
  iterate 4 (refine g_offK rfl rfl (fun _=>hS) (fun K hK=> ?_);go_simp;refine hK _ ?_;clear hK K)
  iterate 1 (refine g_take rfl rfl (fun K hK=> ?_);go_simp;refine hK _ ?_;clear hK K)
  refine g_skipS rfl rfl (hr9 _ _ _ _ _ _ _ _ rfl rfl) (lies_mod hS hm9 (fun e=>by have e:w3.heap.size=w.heap.size:=e;omega)) ?_
  iterate 1 (refine g_take rfl rfl (fun K hK=> ?_);go_simp;refine hK _ ?_;clear hK K)
  refine g_nil ?_
  have HH9:=Lib.hid hh9
  have HB9:=Lib.hid hB9
  clear hbox hS hr9 hh9 hm9 hB9
  go_wp2
  refine bodyPost_ret (results_cellT rfl _ rfl (aggPc 0 0 false false (.slice none 0 0)) (lies_of HH9.out)) rfl ?_
  rw [HE2.out]
  exact ⟨HB9.out,⟨0,0,false,false, []⟩,none,0,0,rfl⟩
 | some q=>
  have hqo:=(unsealB_ok HSEC.out.2 hcu).1
  have HE2:Hid (R=if q.ct=c then some q else none):=Lib.hid (by rw [HE.out,hcu])
  rw [hcu] at hR
  simp only at hR
  obtain ⟨v4,rfl,hO4⟩:=hR
  obtain ⟨ep,ct,fi,la,da⟩:=q
  obtain ⟨a4,n4,c4,rfl⟩:=hO4.shape
  simp only [pcCs] at HE2 ⊢
  have hbox:(w3.alloc (.cells #[.int .u64 (ep:Nat), .int .u64 (ct:Nat), .bool fi, .bool la, .slice a4 n4 c4] 222)).drew.heap[w3.heap.size]?=some (.cells #[.int .u64 (ep:Nat), .int .u64 (ct:Nat), .bool fi, .bool la, .slice a4 n4 c4] 222 (0,0)):=heap_alloc_at
  have hS:=lies_of hbox
  obtain ⟨w9,hr9,hh9,hm9⟩:=exec_storeB (P:=Tryz.prog) (ρ:=fun _=>undef) (ty:=0) (pos:= "") (after:= #[]) (x:= .tmp 0) (y:= .tmp 0) (aggPc (ep:Nat) (ct:Nat) fi la (.slice a4 n4 c4)) (HQ.out ep ct fi la a4 n4 c4) rfl (onePc _ _ _ _ _ _ _)
  have hB9:Below w.heap.size w w9:=HB0.out.trans (((HB3.out.mono (Nat.le_succ _)).alloc (by omega) _).drew.trans (hm9.below (by simp;omega) fun x hx e=>by omega))
  have hO9:LOut en8 1 5 w.heap.size w9 (.slice a4 n4 c4) da:=by
   have h1:=hO4.below (((Below.refl w3.heap.size w3).alloc (Nat.le_refl _) (.cells #[.int .u64 (ep:Nat), .int .u64 (ct:Nat), .bool fi, .bool la, .slice a4 n4 c4] 222)).drew)
   exact (h1.kept hm9.size fun r hr=>hm9.block r (h1.lt hr) fun e=>by
    have e:r=w.heap.size:=e
    have:=hO4.lo r hr
    omega).mono (by omega)
  obtain ⟨t,ht⟩: ∃t,decide (ct=c)=t:=⟨_,rfl⟩
  have hteq:((ct:Int)==(c:Int))=t:=by rw [←ht,Bool.eq_iff_iff,beq_iff_eq,decide_eq_true_eq];omega
  have HT:=Lib.hid ht
  clear hcu ht hO4 hqo
  go_upto_region 5 with fail
  refine wp_region_g (fun w'=>Lies w' w3.heap.size 0 #[.int .u64 (ep:Nat), .int .u64 (ct:Nat), .bool fi, .bool la, .slice a4 n4 c4]) [(0,0),(1,1),(2,1),(3,1),(4,1),(5,0),(6,1),(7,1),(8,1),(9,2),(10,1)] (by kernel_rfl) (by kernel_rfl) (by intro d v c a w h;cases d<;>exact h) ?_
  refine g_read rfl rfl hS (fun w' h=>exec_loadA (aggPc _ _ _ _ _) rfl h) ?_
  iterate 4 (refine g_take rfl rfl (fun K hK=> ?_);go_simp;refine hK _ ?_;clear hK K)
  refine g_read rfl rfl hS (fun w' h=>exec_load1 ⟨⟨_,Tryz.underlying37,rfl⟩⟩ rfl (h 1 (by simp))) ?_
  iterate 3 (refine g_take rfl rfl (fun K hK=> ?_);go_simp;refine hK _ ?_;clear hK K)
  refine g_skipS rfl rfl (hr9 _ _ _ _ _ _ _ _ rfl rfl) (lies_mod hS hm9 (fun e=>by have e:w3.heap.size=w.heap.size:=e;omega)) ?_
  iterate 1 (refine g_take rfl rfl (fun K hK=> ?_);go_simp;refine hK _ ?_;clear hK K)
  refine g_nil ?_
  have HH9:=Lib.hid hh9
  have HB9:=Lib.hid hB9
  have HO9:=Lib.hid hO9
  clear hbox hS hr9 hh9 hm9 hB9 hO9
  go_wp2
  refine bodyPost_ret (results_cellT rfl _ rfl (aggPc _ _ _ _ _) (lies_of HH9.out)) rfl ?_
  rw [HE2.out]
  by_cases hcc:ct=c
  ·have hT:t=true:=by rw [←HT.out];simp [hcc]
   rw [if_pos hcc,hT]
   exact ⟨HB9.out, .slice a4 n4 c4,rfl,HO9.out⟩
  ·have hT:t=false:=by rw [←HT.out];simp [hcc]
   rw [if_neg hcc,hT]
   exact ⟨HB9.out,⟨ep,ct,fi,la,da⟩,a4,n4,c4,rfl⟩
end Go.Proofs.YtjdbbnhnbdocbaaGreat
namespace Go.Tn.Dk
open Go.Tn.Bt Go.Tn.Lp
def recGo (d:Dsk) (n next floor:Nat):Nat→List Pc→List Pc
 | 0,_=> []
 | fuel+1,acc=>match pieceB d n (next+acc.length) with
  | none=> []
  | some q=>match acc with
   | []=>if q.fi=true∧floor≤q.ep then (if q.la=true then [q] else recGo d n next floor fuel [q]) else []
   | p0::r=>if q.fi=false∧q.ep=p0.ep then (if q.la=true then p0::r++ [q] else recGo d n next floor fuel (p0::r++ [q])) else []
def Lg.recordB (l:Lg) (d:Dsk) (floor:Nat):List Pc:=recGo d l.n l.next floor l.free []
end Go.Tn.Dk
namespace Go.Proofs.YtjdbbnhnbdocbaaGreat
open Go.RowKit Go.Tn Go.Tn.Bt Go.Tn.Lp Go.Tn.Dk
def slLen (v:Value):Nat:=match v with
 | .slice _ n _=>n
 | _=>0
theorem DatF.push {B:Nat} {W w4:World} {v v4:Value} {xs:List (Pc×Sv)} {x:Pc×Sv} (hD:DatF B W v xs) (hO:LOut enPc 5 222 B W v xs) (hx:LSl en8 1 W (sv x.2) x.1.da) (hxl: ∀r,(sv x.2).ownBlock=some r→B≤r∧r<W.heap.size∧v.ownBlock≠some r)
  (hm:Mod (fun b=>v.ownBlock=some b) W w4) (hv:v4.ownBlock=v.ownBlock∨ ∃r,v4.ownBlock=some r∧W.heap.size≤r):DatF B w4 v4 (xs++ [x]):=by
 intro y hy
 have key:LSl en8 1 W (sv y.2) y.1.da∧ ∀r,(sv y.2).ownBlock=some r→B≤r∧r<W.heap.size∧v.ownBlock≠some r:=by
  rcases List.mem_append.1 hy with hy|hy
  ·exact hD y hy
  ·rw [List.mem_singleton.1 hy]
   exact ⟨hx,hxl⟩
 refine ⟨key.1.mod hm fun r hr=>(key.2 r hr).2.2,fun r hr=>⟨(key.2 r hr).1,Nat.lt_of_lt_of_le (key.2 r hr).2.1 hm.size,?_⟩⟩
 rcases hv with hv|⟨r',hv,hr'⟩
 ·rw [hv];exact (key.2 r hr).2.2
 ·rw [hv]
  intro e
  cases e
  have:=(key.2 _ hr).2.1
  omega
theorem recGo_none {d:Dsk} {n next floor fuel:Nat} {acc:List Pc} (hq:pieceB d n (next+acc.length)=none):recGo d n next floor (fuel+1) acc= []:=by
 simp only [recGo,hq]
theorem recGo_0 {d:Dsk} {n next floor fuel:Nat} {q:Pc} (hq:pieceB d n next=some q):recGo d n next floor (fuel+1) []=if q.fi=true∧floor≤q.ep then (if q.la=true then [q] else recGo d n next floor fuel [q]) else []:=by
 simp only [recGo,List.length_nil,Nat.add_zero,hq]
theorem recGo_1 {d:Dsk} {n next floor fuel:Nat} {p0 q:Pc} {r:List Pc} (hq:pieceB d n (next+(p0::r).length)=some q):recGo d n next floor (fuel+1) (p0::r)=if q.fi=false∧q.ep=p0.ep then (if q.la=true then p0::r++ [q] else recGo d n next floor fuel (p0::r++ [q])) else []:=by
 simp only [recGo,hq]
def RecAt (w:World) (d:Dsk) (n next floor free:Nat) (ov:Value) (wi:World):Prop:= ∃acc:List Pc,acc.length≤free∧slLen ov=acc.length∧Below w.heap.size w wi∧(∃xs:List (Pc×Sv),xs.map (·.1)=acc∧LOut enPc 5 222 w.heap.size wi ov xs∧DatF w.heap.size wi ov xs)∧recGo d n next floor (free-acc.length) acc=recGo d n next floor free []
set_option maxRecDepth 20000 in
set_option maxHeartbeats 4000000 in
theorem record_any {w:World} {F FD:Nat→Prop} {g p:Nat} {l:Lg} {d:Dsk} (h:LAt w F g p l) (hd:DAt w FD p d) (hn2:2≤l.n) (hn:l.n+3≤d.L.length) (ht:l.tail≤l.next) (hx:l.next<2 ^ 42) (floor:Nat) (hfl:floor<2 ^ 63):
  Calls Tryz.prog 117 #[.pointer (some ⟨g,0,none⟩), .int .u64 floor] w fun e w'=>Below w.heap.size w w'∧ ∃v',e= .returned v'∧PcsO w.heap.size w' v' (l.recordB d floor):=by
 have hhi:=hd.ok.hi
 have hlt:=h.lt g h.fg
 obtain ⟨m,L,clk,hb, -⟩:=h.ex
 have HBK:=Lib.hid hb
 have HL:=Lib.hid h
 have HD:=Lib.hid hd
 have hfe:l.free=l.n-(l.next-l.tail):=rfl
 have hpc:=fun wi (hb:Below w.heap.size w wi) c hc=>piece_any (h.below hb) (hd.below hb) hn2 hn c hc
 have HPC:=Lib.hid hpc
 unfold Lg.recordB
 clear h hd hb hpc
 go_enter Tryz.func117,Tryz.ntmps117
 go_wp2_with fail
 go_loopw [5] (fun ov wi=>RecAt w d l.n l.next floor l.free ov wi) (fun ov _=>l.free-slLen ov)
 case atStart=>exact ⟨[],Nat.zero_le _,rfl,Below.refl _ _,⟨[],rfl,LOut.nil (Nat.le_refl _),fun x hx=>by cases hx⟩,rfl⟩
 case round=>
  obtain ⟨acc,hal,hsl,hb,⟨xs,hxs,hO,hDt⟩,hrec⟩:=hrel
  have hxl:xs.length=acc.length:=by rw [←hxs];simp
  obtain ⟨ao,cap,rfl,hc1,hc2,hc3⟩:=hO.sl elPc.len
  rw [hxl] at hc1 hc3 hO hDt ⊢
  clear hxl hsl
  unfold maxLen at hc2
  have hbg:=(hb.block g hlt).trans HBK.out
  have hS:wr.drew.cell? ⟨g,5,none⟩=some (.int .u64 (l.next:Nat))∧wr.drew.cell? ⟨g,4,none⟩=some (.int .u64 (l.tail:Nat))∧wr.drew.cell? ⟨g,1,none⟩=some (.int .i64 (l.n:Nat)):=⟨cell_of (o:=5) hbg rfl,cell_of (o:=4) hbg rfl,cell_of (o:=1) hbg rfl⟩
  have hal63:(acc.length:Int)≤4096:=by omega
  have hx63:((l.next:Nat):Int)<4398046511104:=by omega
  have ht63:((l.tail:Nat):Int)≤((l.next:Nat):Int):=by omega
  have hn63:((l.n:Nat):Int)≤4096:=by omega
  go_upto_region 2 with fail
  have hu1:IntKind.u64.wrap ((acc.length:Nat):Int)=((acc.length:Nat):Int):=IntWalk.u64_in _ (by omega)
  have hu2:IntKind.u64.wrap (((l.next:Nat):Int)+(acc.length:Nat))=((l.next:Nat):Int)+(acc.length:Nat):=IntWalk.u64_in _ (by omega)
  obtain ⟨r0,hr0⟩: ∃r0,l.next+acc.length-l.tail=r0:=⟨_,rfl⟩
  have hu3:IntKind.u64.wrap (((l.next:Nat):Int)+(acc.length:Nat)-((l.tail:Nat):Int))=(r0:Int):=by rw [IntWalk.u64_in _ (by omega)];omega
  have hu4:IntKind.u64.wrap ((l.n:Nat):Int)=((l.n:Nat):Int):=IntWalk.u64_in _ (by omega)
  refine wp_region_x (fun w'=>w'.cell? ⟨g,5,none⟩=some (.int .u64 (l.next:Nat))∧w'.cell? ⟨g,4,none⟩=some (.int .u64 (l.tail:Nat))∧w'.cell? ⟨g,1,none⟩=some (.int .i64 (l.n:Nat))) [(0,1),(1,1),(2,1),(3,0),(4,1),(5,1),(6,1),(7,1),(8,1),(9,1),(10,1),(11,0),(12,1),(13,1),(14,1),(15,1),(16,0),(17,1),(18,1)] (by kernel_rfl) (by kernel_rfl) (by intro d v c a w h;cases d<;>exact h) ?_
  iterate 3 (refine x_take rfl (fun K hK=> ?_);go_simp;refine hK _ ?_;clear hK K)
  refine x_read rfl hS (fun w' h=>exec_load1 ⟨⟨_,Tryz.underlying37,rfl⟩⟩ rfl h.1) ?_
  iterate 7 (refine x_take rfl (fun K hK=> ?_);go_simp;refine hK _ ?_;clear hK K)
  refine x_read rfl hS (fun w' h=>exec_load1 ⟨⟨_,Tryz.underlying37,rfl⟩⟩ rfl h.2.1) ?_
  iterate 4 (refine x_take rfl (fun K hK=> ?_);go_simp;refine hK _ ?_;clear hK K)
  refine x_read rfl hS (fun w' h=>exec_load1 ⟨⟨_,Tryz.underlying3,rfl⟩⟩ rfl h.2.2) ?_
  iterate 2 (refine x_take rfl (fun K hK=> ?_);go_simp;refine hK _ ?_;clear hK K)
  refine x_nil ?_
  clear hu1 hu2 hu3 hu4
  by_cases hlt2:acc.length<l.free
  ·have hdec:decide (r0<l.n)=true:=by simp;omega
   have hpc:=HPC.out wr.drew hb.drew (l.next+acc.length) (by omega)
   have hu1:IntKind.u64.wrap (((l.next:Nat):Int)+(acc.length:Nat))=((l.next+acc.length:Nat):Int):=by rw [IntWalk.u64_in _ (by omega)];omega
   have hc5:=hS.1
   go_step
   go_step
   simp only [hdec]
   clear hdec hS hr0 hbg
   have HBB:=Lib.hid hb
   have HO:=Lib.hid hO
   have HDT:=Lib.hid hDt
   have HREC:=Lib.hid hrec
   have HXS:=Lib.hid hxs
   have HC3:=Lib.hid hc3
   have HFE:=Lib.hid hfe
   clear hb hO hDt hrec hxs hc3 hfe
   have hfuel:l.free-acc.length=l.free-acc.length-1+1:=by omega
   rw [Int.natCast_add] at hpc
   go_wp2_with fail
   refine hpc.mono ?_
   rintro e w3 ⟨hb3,hR⟩
   have HB3:=Lib.hid (HBB.out.drew.trans (hb3.mono HBB.out.size))
   have HB3':=Lib.hid hb3
   have hz3:wr.heap.size≤w3.heap.size:=hb3.size
   clear hpc hb3
   cases hcp:pieceB d l.n (l.next+acc.length) with
   | none=>
    rw [hcp] at hR
    obtain ⟨q,a4,n4,c4,rfl⟩:=hR
    obtain ⟨ep,ct,fi,la,da⟩:=q
    have HR:Hid (recGo d l.n l.next floor l.free []= []):=Lib.hid (by rw [←HREC.out,hfuel];exact recGo_none hcp)
    simp only [pcCs]
    clear hcp hfuel
    go_wp2_with fail
    go_quiet (fail)
    go_wp2
    go_ret
    exact ⟨below_drewN (HB3.out.alloc HB3.out.size _) _,_,rfl,by rw [HR.out];exact ⟨[],rfl,LOut.nil (HB3.out.alloc HB3.out.size _).size,fun x hx=>by cases hx⟩⟩
   | some q=>
    rw [hcp] at hR
    obtain ⟨v4,rfl,hO4⟩:=hR
    have hO4':LOut en8 1 5 wr.heap.size w3 v4 q.da:=hO4
    obtain ⟨ep,ct,fi,la,da⟩:=q
    obtain ⟨a4,n4,c4,rfl⟩:=hO4.shape
    simp only at hO4'
    have hb5:Below wr.heap.size wr (w3.alloc (.cells #[.int .u64 (ep:Nat), .int .u64 (ct:Nat), .bool fi, .bool la, .slice a4 n4 c4] 222)):=((Below.refl wr.heap.size wr).drew.trans HB3'.out).alloc hz3 _
    have hbx: ∀n,Lies ((w3.alloc (.cells #[.int .u64 (ep:Nat), .int .u64 (ct:Nat), .bool fi, .bool la, .slice a4 n4 c4] 222)).drewN n) w3.heap.size 0 #[.int .u64 (ep:Nat), .int .u64 (ct:Nat), .bool fi, .bool la, .slice a4 n4 c4]:=fun n=>lies_of heap_alloc_at
    have hO5: ∀n,LOut enPc 5 222 w.heap.size ((w3.alloc (.cells #[.int .u64 (ep:Nat), .int .u64 (ct:Nat), .bool fi, .bool la, .slice a4 n4 c4] 222)).drewN n) (.slice ao acc.length cap) xs:=fun n=>HO.out.below (below_drewN hb5 n)
    have hD5: ∀n,DatF w.heap.size ((w3.alloc (.cells #[.int .u64 (ep:Nat), .int .u64 (ct:Nat), .bool fi, .bool la, .slice a4 n4 c4] 222)).drewN n) (.slice ao acc.length cap) xs:=fun n=>HDT.out.below (below_drewN hb5 n)
    have hX5: ∀n,LSl en8 1 ((w3.alloc (.cells #[.int .u64 (ep:Nat), .int .u64 (ct:Nat), .bool fi, .bool la, .slice a4 n4 c4] 222)).drewN n) (sv (a4,n4,c4)) da:=fun n=>((hO4'.sl el8.len).below (((Below.refl _ w3).alloc (Nat.le_refl _) _):Below w3.heap.size w3 (w3.alloc (.cells #[.int .u64 (ep:Nat), .int .u64 (ct:Nat), .bool fi, .bool la, .slice a4 n4 c4] 222)))).below (below_drewN (Below.refl _ _) n)
    have hXL: ∀r,(sv (a4,n4,c4)).ownBlock=some r→w.heap.size≤r∧r<(w3.alloc (.cells #[.int .u64 (ep:Nat), .int .u64 (ct:Nat), .bool fi, .bool la, .slice a4 n4 c4] 222)).heap.size∧(Value.slice ao acc.length cap).ownBlock≠some r:=fun r hr=>by
     have h1:=hO4'.lo r hr
     have h2:=hO4'.lt hr
     refine ⟨Nat.le_trans HBB.out.size h1,by simp;omega,fun e=> ?_⟩
     have:=HO.out.lt e
     omega
    have hob:¬ (fun b=>(Value.slice ao acc.length cap).ownBlock=some b) w3.heap.size:=fun e=>by
     have:=HO.out.lt e
     omega
    have HB5:=Lib.hid (HBB.out.trans (hb5.mono HBB.out.size))
    have HOLO:=Lib.hid HO.out.lo
    have HBX:=Lib.hid hbx
    have HO5:=Lib.hid hO5
    have HDT5:=Lib.hid hD5
    have HX5:=Lib.hid hX5
    have HXL:=Lib.hid hXL
    have HOB:=Lib.hid hob
    have hxn:xs.length=acc.length:=by rw [←HXS.out];simp
    have hol:xs.length≤1000000000:=by omega
    have HXN:=Lib.hid hxn
    have hw5: ∀b o u,wr.cell? ⟨b,o,none⟩=some u→(w3.alloc (.cells #[.int .u64 (ep:Nat), .int .u64 (ct:Nat), .bool fi, .bool la, .slice a4 n4 c4] 222)).cell? ⟨b,o,none⟩=some u:=fun b o u h=>(hb5.cell (p:=⟨b,o,none⟩) (World.block_lt_of_cell? _ _ h)).trans h
    have HW5:=Lib.hid hw5
    clear hO4 hO4' hb5 hbx hO5 hD5 hX5 hXL hob hxn hw5
    simp only [pcCs]
    by_cases h0:acc.length=0
    ·have hacc:acc= []:=List.eq_nil_of_length_eq_zero h0
     have hf0:((acc.length:Int)==0)=true:=by simp [h0]
     have hq0:pieceB d l.n l.next=some ⟨ep,ct,fi,la,da⟩:=by rw [←hcp,h0];rfl
     have hr0:=recGo_0 (floor:=floor) (fuel:=l.free-acc.length-1) hq0
     have hrec:recGo d l.n l.next floor l.free []=if fi=true∧floor≤ep then (if la=true then [⟨ep,ct,fi,la,da⟩] else recGo d l.n l.next floor (l.free-acc.length-1) [⟨ep,ct,fi,la,da⟩]) else []:=by
      have h1:=HREC.out
      rw [hfuel,show recGo d l.n l.next floor (l.free-acc.length-1+1) acc=recGo d l.n l.next floor (l.free-acc.length-1+1) [] from by rw [hacc]] at h1
      rw [←h1]
      exact hr0
     have HRC:=Lib.hid hrec
     have HACC:=Lib.hid hacc
     have H0:=Lib.hid h0
     clear hcp hfuel hq0 hr0 hrec hacc h0
     cases fi with
     | false=>
      have HR:Hid (recGo d l.n l.next floor l.free []= []):=Lib.hid (by rw [HRC.out,if_neg (by simp)])
      go_wp2_with fail
      go_quiet (fail)
      go_wp2
      go_ret
      exact ⟨below_drewN HB5.out _,_,rfl,by rw [HR.out];exact ⟨[],rfl,LOut.nil HB5.out.size,fun x hx=>by cases hx⟩⟩
     | true=>
      by_cases hef:floor≤ep
      ·have hd:decide (ep<floor)=false:=by simp;omega
       have HG:Hid (recGo d l.n l.next floor l.free []=if la=true then acc++ [⟨ep,ct,true,la,da⟩] else recGo d l.n l.next floor (l.free-acc.length-1) (acc++ [⟨ep,ct,true,la,da⟩])):=Lib.hid (by rw [HRC.out,if_pos ⟨rfl,hef⟩,HACC.out];rfl)
       clear HRC
       go_wp2_with fail
       go_quiet (fail)
       clear hd hf0
       have HBXn:=Lib.hid (HBX.out nq)
       have HO5n:=Lib.hid (HO5.out nq)
       have HDT5n:=Lib.hid (HDT5.out nq)
       have HX5n:=Lib.hid (HX5.out nq)
       have HXLn:Hid (∀r,(sv (a4,n4,c4)).ownBlock=some r→w.heap.size≤r∧r<((w3.alloc (.cells #[.int .u64 (ep:Nat), .int .u64 (ct:Nat), .bool true, .bool la, .slice a4 n4 c4] 222)).drewN nq).heap.size∧_):=Lib.hid HXL.out
       have HB5n:Hid (Below w.heap.size w ((w3.alloc (.cells #[.int .u64 (ep:Nat), .int .u64 (ct:Nat), .bool true, .bool la, .slice a4 n4 c4] 222)).drewN nq)):=Lib.hid (below_drewN HB5.out nq)
       clear HBX HO5 HDT5 HX5 HXL HB5 HW5
       generalize (w3.alloc (.cells #[.int .u64 (ep:Nat), .int .u64 (ct:Nat), .bool true, .bool la, .slice a4 n4 c4] 222)).drewN nq=W5 at*
       go_upto_region 8 with (first
        | ((with_reducible refine wpList_loadA (aggPc _ _ _ _ _) HBXn.out ?_ ?_);rfl;go_frame)
        | ((with_reducible refine wpList_append1Y elPc HO5n.out (⟨ep,ct,true,la,da⟩,(a4,n4,c4)) hol ?_ ?_ ?_ ?_);rfl;rfl;(first|rfl|(go_simp;done)|(simp;done));(intro v6 w6 hO6 hm6 hv6;have q3:=cell_mod (HBXn.out 3 (by simp)) hm6 HOB.out;have HO6:=Lib.hid hO6;have HM6:=Lib.hid hm6;have HV6:=Lib.hid hv6;clear hO6 hm6 hv6);go_frame)
        | fail)
       have HB6:=Lib.hid (HB5n.out.trans (HM6.out.below HB5n.out.size fun x hx e=>by have:=HOLO.out x e;omega))
       have HD6:=Lib.hid (DatF.push (x:=(⟨ep,ct,true,la,da⟩,(a4,n4,c4))) HDT5n.out HO5n.out HX5n.out HXLn.out HM6.out HV6.out)
       have hl6:=HO6.out.sl elPc.len
       obtain ⟨a6,n6,c6,rfl⟩:=HO6.out.shape
       have HN6:Hid (n6=acc.length+1):=by
        obtain ⟨a7,c7,he7, -⟩:=hl6
        have:n6=_:=(Value.slice.inj he7).2.1
        exact Lib.hid (by rw [this,List.length_append,HXN.out];rfl)
       clear hl6
       cases la with
       | true=>
        go_wp2
        go_ret
        exact ⟨HB6.out, .slice a6 n6 c6,rfl,by rw [show recGo d l.n l.next floor l.free []=acc++ [⟨ep,ct,true,true,da⟩] from HG.out.trans (by simp)];exact ⟨xs++ [((⟨ep,ct,true,true,da⟩:Pc),((a4,n4,c4):Sv))],by rw [List.map_append,HXS.out];rfl,HO6.out,HD6.out⟩⟩
       | false=>
        go_wp2
        go_roundw
        case rel=>exact ⟨acc++ [⟨ep,ct,true,false,da⟩],by simp;omega,by rw [List.length_append,List.length_singleton];exact HN6.out,HB6.out,⟨xs++ [((⟨ep,ct,true,false,da⟩:Pc),((a4,n4,c4):Sv))],by rw [List.map_append,HXS.out];rfl,HO6.out,HD6.out⟩,by rw [List.length_append,List.length_singleton, ←Nat.sub_sub];exact (HG.out.trans (by simp)).symm⟩
        case measure=>have:=HN6.out;simp only [slLen];omega
      ·have hd:decide (ep<floor)=true:=by simp;omega
       have HR:Hid (recGo d l.n l.next floor l.free []= []):=Lib.hid (by rw [HRC.out,if_neg (fun e=>hef e.2)])
       go_wp2_with fail
       go_quiet (fail)
       go_wp2
       go_ret
       exact ⟨below_drewN HB5.out _,_,rfl,by rw [HR.out];exact ⟨[],rfl,LOut.nil HB5.out.size,fun x hx=>by cases hx⟩⟩
    ·obtain ⟨p0,rr,hacc⟩: ∃p0 rr,acc=p0::rr:=by
      cases acc with
      | nil=>exact absurd rfl h0
      | cons p0 rr=>exact ⟨p0,rr,rfl⟩
     have hf0:((acc.length:Int)==0)=false:=beq_eq_false_iff_ne.2 (by omega)
     have hpos:(0:Int)<(acc.length:Int):=by omega
     have hq0:pieceB d l.n (l.next+(p0::rr).length)=some ⟨ep,ct,fi,la,da⟩:=by rw [←hacc];exact hcp
     have hr0:=recGo_1 (floor:=floor) (fuel:=l.free-acc.length-1) hq0
     have hrec:recGo d l.n l.next floor l.free []=if fi=false∧ep=p0.ep then (if la=true then acc++ [⟨ep,ct,fi,la,da⟩] else recGo d l.n l.next floor (l.free-acc.length-1) (acc++ [⟨ep,ct,fi,la,da⟩])) else []:=by
      have h1:=HREC.out
      rw [hfuel] at h1
      rw [←h1,hacc]
      rw [hacc] at hr0
      exact hr0
     obtain ⟨x0,hx0⟩: ∃x,xs[0]?=some x:=⟨_,List.getElem?_eq_getElem (by rw [HXN.out];omega)⟩
     have hp0:x0.1=p0:=by
      have:=congrArg (fun l=>l[0]?) HXS.out
      simp only [List.getElem?_map,hx0,hacc] at this
      exact Option.some.inj this
     obtain ⟨b0,o0,hao,hb0,hcells⟩:=HC3.out (by omega)
     subst hao
     have hce:=hcells 0 x0 hx0 0 (by simp [enPc])
     obtain ⟨⟨pe,pt,pf,pl,pd⟩,sv0⟩:=x0
     have hce':wr.cell? ⟨b0,o0+0*5+0,none⟩=some (.int .u64 (pe:Nat)):=hce
     simp only [Nat.zero_mul,Nat.add_zero] at hce'
     have q9:=HW5.out b0 o0 _ hce'
     have hpe:p0.ep=pe:=by rw [←hp0]
     rw [hpe] at hrec
     have HRC:=Lib.hid hrec
     clear hcp hfuel hq0 hr0 hrec hacc hce hce' hcells hx0 hp0 hpe
     cases fi with
     | true=>
      have HR:Hid (recGo d l.n l.next floor l.free []= []):=Lib.hid (by rw [HRC.out,if_neg (by simp)])
      go_wp2_with fail
      go_quiet (fail)
      go_wp2
      go_ret
      exact ⟨below_drewN HB5.out _,_,rfl,by rw [HR.out];exact ⟨[],rfl,LOut.nil HB5.out.size,fun x hx=>by cases hx⟩⟩
     | false=>
      by_cases hef:ep=pe
      ·subst hef
       have HG:Hid (recGo d l.n l.next floor l.free []=if la=true then acc++ [⟨ep,ct,false,la,da⟩] else recGo d l.n l.next floor (l.free-acc.length-1) (acc++ [⟨ep,ct,false,la,da⟩])):=Lib.hid (by rw [HRC.out,if_pos ⟨rfl,rfl⟩])
       clear HRC
       go_wp2_with fail
       go_quiet (fail)
       clear hf0
       have HBXn:=Lib.hid (HBX.out nq)
       have HO5n:=Lib.hid (HO5.out nq)
       have HDT5n:=Lib.hid (HDT5.out nq)
       have HX5n:=Lib.hid (HX5.out nq)
       have HXLn:Hid (∀r,(sv (a4,n4,c4)).ownBlock=some r→w.heap.size≤r∧r<((w3.alloc (.cells #[.int .u64 (ep:Nat), .int .u64 (ct:Nat), .bool false, .bool la, .slice a4 n4 c4] 222)).drewN nq).heap.size∧_):=Lib.hid HXL.out
       have HB5n:Hid (Below w.heap.size w ((w3.alloc (.cells #[.int .u64 (ep:Nat), .int .u64 (ct:Nat), .bool false, .bool la, .slice a4 n4 c4] 222)).drewN nq)):=Lib.hid (below_drewN HB5.out nq)
       clear HBX HO5 HDT5 HX5 HXL HB5 HW5
       generalize (w3.alloc (.cells #[.int .u64 (ep:Nat), .int .u64 (ct:Nat), .bool false, .bool la, .slice a4 n4 c4] 222)).drewN nq=W5 at*
       go_upto_region 8 with (first
        | ((with_reducible refine wpList_loadA (aggPc _ _ _ _ _) HBXn.out ?_ ?_);rfl;go_frame)
        | ((with_reducible refine wpList_append1Y elPc HO5n.out (⟨ep,ct,false,la,da⟩,(a4,n4,c4)) hol ?_ ?_ ?_ ?_);rfl;rfl;(first|rfl|(go_simp;done)|(simp;done));(intro v6 w6 hO6 hm6 hv6;have q3:=cell_mod (HBXn.out 3 (by simp)) hm6 HOB.out;have HO6:=Lib.hid hO6;have HM6:=Lib.hid hm6;have HV6:=Lib.hid hv6;clear hO6 hm6 hv6);go_frame)
        | fail)
       have HB6:=Lib.hid (HB5n.out.trans (HM6.out.below HB5n.out.size fun x hx e=>by have:=HOLO.out x e;omega))
       have HD6:=Lib.hid (DatF.push (x:=(⟨ep,ct,false,la,da⟩,(a4,n4,c4))) HDT5n.out HO5n.out HX5n.out HXLn.out HM6.out HV6.out)
       have hl6:=HO6.out.sl elPc.len
       obtain ⟨a6,n6,c6,rfl⟩:=HO6.out.shape
       have HN6:Hid (n6=acc.length+1):=by
        obtain ⟨a7,c7,he7, -⟩:=hl6
        have:n6=_:=(Value.slice.inj he7).2.1
        exact Lib.hid (by rw [this,List.length_append,HXN.out];rfl)
       clear hl6
       cases la with
       | true=>
        go_wp2
        go_ret
        exact ⟨HB6.out, .slice a6 n6 c6,rfl,by rw [show recGo d l.n l.next floor l.free []=acc++ [⟨ep,ct,false,true,da⟩] from HG.out.trans (by simp)];exact ⟨xs++ [((⟨ep,ct,false,true,da⟩:Pc),((a4,n4,c4):Sv))],by rw [List.map_append,HXS.out];rfl,HO6.out,HD6.out⟩⟩
       | false=>
        go_wp2
        go_roundw
        case rel=>exact ⟨acc++ [⟨ep,ct,false,false,da⟩],by simp;omega,by rw [List.length_append,List.length_singleton];exact HN6.out,HB6.out,⟨xs++ [((⟨ep,ct,false,false,da⟩:Pc),((a4,n4,c4):Sv))],by rw [List.map_append,HXS.out];rfl,HO6.out,HD6.out⟩,by rw [List.length_append,List.length_singleton, ←Nat.sub_sub];exact (HG.out.trans (by simp)).symm⟩
        case measure=>have:=HN6.out;simp only [slLen];omega
      ·have hd:((ep:Int) !=(pe:Int))=true:=by rw [bne_iff_ne];omega
       have HR:Hid (recGo d l.n l.next floor l.free []= []):=Lib.hid (by rw [HRC.out,if_neg (fun e=>hef e.2)])
       go_wp2_with fail
       go_quiet (fail)
       go_wp2
       go_ret
       exact ⟨below_drewN HB5.out _,_,rfl,by rw [HR.out];exact ⟨[],rfl,LOut.nil HB5.out.size,fun x hx=>by cases hx⟩⟩
  ·have hdec:decide (r0<l.n)=false:=by simp;omega
   have h0:l.free-acc.length=0:=by omega
   rw [h0] at hrec
   have HR:Hid (recGo d l.n l.next floor l.free []= []):=Lib.hid (by rw [←hrec];rfl)
   have HB:=Lib.hid hb
   clear hrec hb hO hDt hS hbg hc3 hxs h0 hfe hr0
   go_step
   go_step
   simp only [hdec]
   clear hdec
   go_wp2
   go_ret
   exact ⟨HB.out.drew,_,rfl,by rw [HR.out];exact ⟨[],rfl,LOut.nil HB.out.size,fun x hx=>by cases hx⟩⟩
end Go.Proofs.YtjdbbnhnbdocbaaGreat
