import Derived.Test.YtjdbbnhnbdocbaaGreatMgGon10
namespace Go.Proofs.YtjdbbnhnbdocbaaGreat
open Go.RowKit Go.Tn Go.Tn.Bt Go.Tn.Lp
def PcsO (B:Nat) (w:World) (v:Value) (ps:List Pc):Prop:= ∃xs:List (Pc×Sv),xs.map (·.1)=ps∧LOut enPc 5 222 B w v xs∧
 ∀x∈xs,LSl en8 1 w (sv x.2) x.1.da∧ ∀r,(sv x.2).ownBlock=some r→B≤r∧r<w.heap.size∧v.ownBlock≠some r
theorem cutN_le (bs:List Nat):cutN bs≤bs.length+1:=by unfold cutN;omega
theorem cut_drop (bs:List Nat) (k:Nat):(bs.drop (106*k)).drop (min (bs.drop (106*k)).length 106)=bs.drop (106*(k+1)):=by
 rw [List.drop_drop,List.length_drop]
 by_cases h:106≤bs.length-106*k
 ·rw [Nat.min_eq_right h];rfl
 ·rw [List.drop_of_length_le (by omega),List.drop_of_length_le (by omega)]
theorem cut_take (L:List Nat):L.take (min L.length 106)=L.take 106:=by
 by_cases h:106≤L.length
 ·rw [Nat.min_eq_right h]
 ·rw [List.take_of_length_le (by omega),List.take_of_length_le (by omega)]
def DatF (B:Nat) (w:World) (v:Value) (xs:List (Pc×Sv)):Prop:= ∀x∈xs,LSl en8 1 w (sv x.2) x.1.da∧ ∀r,(sv x.2).ownBlock=some r→B≤r∧r<w.heap.size∧v.ownBlock≠some r
theorem DatF.below {B:Nat} {w w':World} {v:Value} {xs:List (Pc×Sv)} (h:DatF B w v xs) (hb:Below w.heap.size w w'):DatF B w' v xs:=fun x hx=>
 ⟨(h x hx).1.below hb,fun r hr=>⟨((h x hx).2 r hr).1,Nat.lt_of_lt_of_le ((h x hx).2 r hr).2.1 hb.size,((h x hx).2 r hr).2.2⟩⟩
set_option maxRecDepth 20000 in
set_option maxHeartbeats 4000000 in
theorem cut_main (w:World) (ep ct:Nat) (v:Value) (bs:List Nat) (h:LSl en8 1 w v bs) (hep:ep≤16777215) (hct:ct≤1099511627775) (hn:cutN bs-1≤1099511627775-ct) (hl:bs.length≤8192):
  Calls Tryz.prog 170 #[.int .u64 ep, .int .u64 ct,v] w fun e w'=>Below w.heap.size w w'∧ ∃v',e= .returned (.tuple #[v', .int .i64 0])∧PcsO w.heap.size w' v' (cutL ep ct bs):=by
 have hsl:=h
 have hn1:=cutN_pos bs
 have hn2:=cutN_le bs
 unfold cutL
 obtain ⟨q,hqe⟩: ∃q,(bs.length+105)/106=q:=⟨_,rfl⟩
 have hnq:cutN bs=max q 1:=by unfold cutN;rw [hqe]
 have hq:((bs.length:Int)+106-1)/106=((q:Nat):Int):=by omega
 obtain ⟨n,hne⟩: ∃n,cutN bs=n:=⟨_,rfl⟩
 rw [hne] at hn hn1 hn2 hnq ⊢
 have hmx:(if (q:Int)<1 then (1:Int) else q)=n:=by split<;>omega
 have hnb:106*(n-1)≤bs.length:=by omega
 obtain ⟨ao,cap,rfl,h1,h2,h3⟩:=h
 unfold maxLen at h2
 have he1:decide ((16777215:Int)<ep)=false:=by simp;omega
 have he2:decide ((1099511627775:Int)<ct)=false:=by simp;omega
 have he3:decide ((1099511627775:Int)-ct<(n:Int)-1)=false:=by simp;omega
 have he4:decide ((8192:Int)<bs.length)=false:=by simp;omega
 have hn1':(1:Int)≤n:=by omega
 have hn2':(n:Int)≤9000:=by omega
 have HNE:=Lib.hid hne
 clear hqe hnq hne h3
 go_enter Tryz.func170,Tryz.ntmps170
 go_wp2_with fail
 clear hq hmx
 go_loopw [2,9,38] (fun bv ov iv wi=> ∃k:Nat,k≤n∧iv= .int .u64 k∧LSl en8 1 w bv (bs.drop (106*k))∧Below w.heap.size w wi∧ ∃xs:List (Pc×Sv),xs.map (·.1)=(List.range k).map (pieceAt ep ct bs)∧LOut enPc 5 222 w.heap.size wi ov xs∧DatF w.heap.size wi ov xs) (fun _ _ iv _=>n-(intOf iv).toNat)
 case atStart=>exact ⟨0,Nat.zero_le _,rfl,hsl,Below.refl _ _, [],rfl,LOut.nil (Nat.le_refl _),fun x hx=>by cases hx⟩
 case round=>
  obtain ⟨k,hk,rfl,hbv,hb,xs,hxs,hO,hD⟩:=hrel
  by_cases hkn:k<n
  ·have hkn':(k:Int)<(n:Int):=by omega
   have hbv0:=hbv
   have hlen:(bs.drop (106*k)).length≤8192:=by rw [List.length_drop];omega
   have hpc:pieceAt ep ct bs k=⟨ep,ct+k,decide (k=0),decide (k+1=n),(bs.drop (106*k)).take 106⟩:=by unfold pieceAt;rw [HNE.out]
   have hnx:=cut_drop bs k
   have htk:=cut_take (bs.drop (106*k))
   have hxl:xs.length=k:=by
    have:=congrArg List.length hxs
    simpa using this
   generalize bs.drop (106*k)=cs at*
   obtain ⟨a1,c1,rfl,h4,h5, -⟩:=hbv
   unfold maxLen at h5
   obtain ⟨j,hj⟩: ∃j,min cs.length 106=j:=⟨_,rfl⟩
   rw [hj] at hnx htk
   have hmn:(if (106:Int)<cs.length then (106:Int) else cs.length)=j:=by split<;>omega
   have hjl:j≤cs.length:=by omega
   have hjc:(j:Int)≤(c1:Int):=by omega
   have hjl':(j:Int)≤(cs.length:Int):=by omega
   have hj106:(j:Int)≤106:=by omega
   obtain ⟨ad,had⟩: ∃ad,(if c1=j then a1 else a1.map (·.add (j*1)))=ad:=⟨_,rfl⟩
   obtain ⟨ln,hln⟩: ∃ln,cs.length-j=ln:=⟨_,rfl⟩
   obtain ⟨cn,hcn⟩: ∃cn,c1-j=cn:=⟨_,rfl⟩
   have hdr:=hbv0.drop2 (i:=j) hjl had hln hcn
   have htake:=hbv0.take (i:=j) hjl
   rw [htk] at htake
   rw [hnx] at hdr
   have hcl:=fun w1 (hb1:Below w.heap.size w w1)=>clone_any w1 _ _ (htake.below hb1) (by rw [List.length_take];omega)
   have hol:xs.length≤1000000000:=by omega
   have hct':(ct:Int)≤1099511627775:=by omega
   obtain ⟨f0,hf0⟩: ∃f,decide (k=0)=f:=⟨_,rfl⟩
   obtain ⟨l0,hl0⟩: ∃f,decide (k+1=n)=f:=⟨_,rfl⟩
   rw [hf0,hl0] at hpc
   have hf1:((k:Int)==0)=f0:=by rw [←hf0,Bool.eq_iff_iff];simp
   have hf2:((k:Int)==(n:Int)-1)=l0:=by rw [←hl0,Bool.eq_iff_iff];simp;omega
   have HPC:=Lib.hid hpc
   have HXS:=Lib.hid hxs
   have HB:=Lib.hid hb
   have HD:=Lib.hid hD
   have HO:=Lib.hid hO
   have HDR:=Lib.hid hdr
   have HAD:=Lib.hid had
   have HLN:=Lib.hid hln
   have HCN:=Lib.hid hcn
   have HJ:=Lib.hid hj
   clear hpc hxs hb hD hO hdr had hln hcn hj hnx htk hxl hf0 hl0 hbv0 htake
   go_upto_region 11 with fail
   go_upto_region 12 with (first
    | (go_at_call 58;refine (hcl _ HB.out).mono ?_;rintro e w2 ⟨v2,rfl,hO2,hb2⟩;obtain ⟨a2,n2,c2,rfl⟩:=hO2.shape;have HO2:=Lib.hid hO2;have HB2:=Lib.hid hb2;clear hO2 hb2 hcl)
    | ((with_reducible refine wpList_append1Y elPc (HO.out.below HB2.out) (⟨ep,ct+k,f0,l0,cs.take 106⟩,(a2,n2,c2)) hol ?_ ?_ ?_ ?_);rfl;rfl;rfl;(intro v4 w4 hO4 hm4 hv4;have HO4:=Lib.hid hO4;have HM4:=Lib.hid hm4;have HV4:=Lib.hid hv4;clear hO4 hm4 hv4);go_frame)
    | fail)
   go_wp2_with (first
    | ((with_reducible refine wpList_exec rfl (exec_sliceLo2 Tryz.underlying44 size8 hjl HAD.out HLN.out HCN.out ?_ ?_) ?_);rfl;rfl;go_frame)
    | fail)
   have hb2:Below w.heap.size w w2:=HB.out.trans (HB2.out.mono HB.out.size)
   have hOlo: ∀b,u9.ownBlock=some b→w.heap.size≤b:=HO.out.lo
   have hb4:Below w.heap.size w w4:=hb2.trans (HM4.out.below (Nat.le_trans HB.out.size HB2.out.size) fun x hx e=>by have:=hOlo x e;omega)
   go_roundw
   case rel=>
    refine ⟨k+1,by omega,by go_num,HDR.out,hb4,xs++ [(⟨ep,ct+k,f0,l0,cs.take 106⟩,(a2,n2,c2))],?_,HO4.out,?_⟩
    ·rw [List.map_append,HXS.out,List.range_succ,List.map_append,List.map_singleton,List.map_singleton,HPC.out]
    ·intro x hx
     rcases List.mem_append.1 hx with hx|hx
     ·have h0:=HD.out x hx
      have h2:=HD.out.below HB2.out x hx
      have hne: ∀r,(sv x.2).ownBlock=some r→¬ u9.ownBlock=some r:=fun r hr=>((HD.out x hx).2 r hr).2.2
      refine ⟨h2.1.mod HM4.out hne,fun r hr=>⟨(h2.2 r hr).1,Nat.lt_of_lt_of_le (h2.2 r hr).2.1 HM4.out.size,?_⟩⟩
      rcases HV4.out with hv|⟨r',hv,hr'⟩
      ·rw [hv];exact hne r hr
      ·rw [hv]
       intro e
       cases e
       have:=(h2.2 r hr).2.1
       omega
     ·rw [List.mem_singleton.1 hx]
      have hl2:=fun r hr=>HO2.out.lo r hr
      have hlt2:=fun r hr=>HO2.out.lt (r:=r) hr
      have hne: ∀r,(Value.slice a2 n2 c2).ownBlock=some r→¬ u9.ownBlock=some r:=fun r hr e=>by
       have:=hl2 r hr
       have:=HO.out.lt e
       omega
      refine ⟨(HO2.out.sl el8.len).mod HM4.out hne,fun r hr=>⟨Nat.le_trans HB.out.size (hl2 r hr),Nat.lt_of_lt_of_le (hlt2 r hr) HM4.out.size,?_⟩⟩
      rcases HV4.out with hv|⟨r',hv,hr'⟩
      ·rw [hv];exact hne r hr
      ·rw [hv]
       intro e
       cases e
       have:=hlt2 r hr
       omega
   case measure=>simp [intOf];omega
  ·obtain rfl:k=n:=by omega
   have HXS:=Lib.hid hxs
   have HB:=Lib.hid hb
   have HD:=Lib.hid hD
   have HO:=Lib.hid hO
   obtain ⟨a2,n2,c2,rfl⟩:=hO.shape
   clear hxs hb hD hO hbv
   go_wp2
   go_ret2
   exact ⟨HB.out,_,rfl,xs,HXS.out,HO.out,HD.out⟩
theorem cut_arg (w:World) (ep ct:Nat) (v:Value) (bs:List Nat) (h:LSl en8 1 w v bs) (he64:ep<2 ^ 64) (hc64:ct<2 ^ 64) (hl:bs.length≤500000) (hno:16777215<ep∨1099511627775<ct∨1099511627775-ct<cutN bs-1):
  Calls Tryz.prog 170 #[.int .u64 ep, .int .u64 ct,v] w fun e w'=>e= .returned (.tuple #[.slice none 0 0, .int .i64 2])∧w'=w:=by
 obtain ⟨ao,cap,rfl,h1,h2,h3⟩:=h
 unfold maxLen at h2
 have hn1:=cutN_pos bs
 have hn2:=cutN_le bs
 obtain ⟨q,hqe⟩: ∃q,(bs.length+105)/106=q:=⟨_,rfl⟩
 have hnq:cutN bs=max q 1:=by unfold cutN;rw [hqe]
 have hq:((bs.length:Int)+106-1)/106=((q:Nat):Int):=by omega
 obtain ⟨n,hne⟩: ∃n,cutN bs=n:=⟨_,rfl⟩
 rw [hne] at hn1 hn2 hnq hno
 have hmx:(if (q:Int)<1 then (1:Int) else q)=n:=by split<;>omega
 have hn1':(1:Int)≤n:=by omega
 have hn2':(n:Int)≤60000:=by omega
 clear hqe hnq hne h3
 by_cases he:16777215<ep
 ·have he1:decide ((16777215:Int)<ep)=true:=by simp;omega
  go_enter Tryz.func170,Tryz.ntmps170
  go_wp2
  go_ret2
  exact ⟨rfl,rfl⟩
 ·have he1:decide ((16777215:Int)<ep)=false:=by simp;omega
  by_cases hc:1099511627775<ct
  ·have he2:decide ((1099511627775:Int)<ct)=true:=by simp;omega
   go_enter Tryz.func170,Tryz.ntmps170
   go_wp2
   go_ret2
   exact ⟨rfl,rfl⟩
  ·have he2:decide ((1099511627775:Int)<ct)=false:=by simp;omega
   have hc':(ct:Int)≤1099511627775:=by omega
   have he3:decide ((1099511627775:Int)-ct<(n:Int)-1)=true:=by simp;omega
   go_enter Tryz.func170,Tryz.ntmps170
   go_wp2
   go_ret2
   exact ⟨rfl,rfl⟩
theorem cut_big (w:World) (ep ct:Nat) (v:Value) (bs:List Nat) (h:LSl en8 1 w v bs) (hep:ep≤16777215) (hct:ct≤1099511627775) (hn:cutN bs-1≤1099511627775-ct) (hl:bs.length≤500000) (hl2:8192<bs.length):
  Calls Tryz.prog 170 #[.int .u64 ep, .int .u64 ct,v] w fun e w'=>e= .returned (.tuple #[.slice none 0 0, .int .i64 5])∧w'=w:=by
 obtain ⟨ao,cap,rfl,h1,h2,h3⟩:=h
 unfold maxLen at h2
 have hn1:=cutN_pos bs
 have hn2:=cutN_le bs
 obtain ⟨q,hqe⟩: ∃q,(bs.length+105)/106=q:=⟨_,rfl⟩
 have hnq:cutN bs=max q 1:=by unfold cutN;rw [hqe]
 have hq:((bs.length:Int)+106-1)/106=((q:Nat):Int):=by omega
 obtain ⟨n,hne⟩: ∃n,cutN bs=n:=⟨_,rfl⟩
 rw [hne] at hn1 hn2 hnq hn
 have hmx:(if (q:Int)<1 then (1:Int) else q)=n:=by split<;>omega
 have hn1':(1:Int)≤n:=by omega
 have hn2':(n:Int)≤60000:=by omega
 have hc':(ct:Int)≤1099511627775:=by omega
 have he1:decide ((16777215:Int)<ep)=false:=by simp;omega
 have he2:decide ((1099511627775:Int)<ct)=false:=by simp;omega
 have he3:decide ((1099511627775:Int)-ct<(n:Int)-1)=false:=by simp;omega
 have he4:decide ((8192:Int)<bs.length)=true:=by simp;omega
 clear hqe hnq hne h3
 go_enter Tryz.func170,Tryz.ntmps170
 go_wp2
 go_ret2
 exact ⟨rfl,rfl⟩
def CutR (B:Nat) (w':World) (r:Except Int (List Pc)) (e:Ending):Prop:=match r with
 | .error k=>e= .returned (.tuple #[.slice none 0 0, .int .i64 k])
 | .ok ps=> ∃v',e= .returned (.tuple #[v', .int .i64 0])∧PcsO B w' v' ps
theorem cut_any (w:World) (ep ct:Nat) (v:Value) (bs:List Nat) (h:LSl en8 1 w v bs) (he64:ep<2 ^ 64) (hc64:ct<2 ^ 64) (hl:bs.length≤500000):
  Calls Tryz.prog 170 #[.int .u64 ep, .int .u64 ct,v] w fun e w'=>Below w.heap.size w w'∧CutR w.heap.size w' (cutB ep ct bs) e:=by
 unfold cutB
 by_cases h1:16777215<ep∨1099511627775<ct∨1099511627775-ct<cutN bs-1
 ·rw [if_pos h1]
  refine (cut_arg w ep ct v bs h he64 hc64 hl h1).mono ?_
  rintro e w' ⟨rfl,rfl⟩
  exact ⟨Below.refl _ _,rfl⟩
 ·rw [if_neg h1]
  by_cases h2:8192<bs.length
  ·rw [if_pos h2]
   refine (cut_big w ep ct v bs h (by omega) (by omega) (by omega) hl h2).mono ?_
   rintro e w' ⟨rfl,rfl⟩
   exact ⟨Below.refl _ _,rfl⟩
  ·rw [if_neg h2]
   exact (cut_main w ep ct v bs h (by omega) (by omega) (by omega) (by omega)).mono fun e w' h=>h
def PcsI (w:World) (v:Value) (ps:List Pc):Prop:= ∃xs:List (Pc×Sv),xs.map (·.1)=ps∧LSl enPc 5 w v xs∧Datas w xs
theorem PcsO.rd {B:Nat} {w:World} {v:Value} {ps:List Pc} (h:PcsO B w v ps):PcsI w v ps:=by
 obtain ⟨xs,h1,h2,h3⟩:=h
 exact ⟨xs,h1,h2.sl elPc.len,fun x hx=>(h3 x hx).1⟩
instance:DecidableEq Pc:=fun a b=>decidable_of_iff (a.ep=b.ep∧a.ct=b.ct∧a.fi=b.fi∧a.la=b.la∧a.da=b.da) (by
 cases a;cases b;simp)
def recOf (ps:List Pc):List Nat:=ps.flatMap (·.da)
def pcOk (p:Pc):Prop:=p.ep<2 ^ 64∧p.ct<2 ^ 64∧ ∀x∈p.da,x<256
def joinB (ps:List Pc):Option (List Nat):=match ps with
 | []=>none
 | p::_=>match cutB p.ep p.ct (recOf ps) with
  | .ok want=>if want=ps then some (recOf ps) else none
  | .error _=>none
theorem joinB_short {ps:List Pc} {b:List Nat} (h:joinB ps=some b):b.length≤8192:=by
 cases ps with
 | nil=>cases h
 | cons q r=>
  simp only [joinB] at h
  cases hc:cutB q.ep q.ct (recOf (q::r)) with
  | error e=>rw [hc] at h;cases h
  | ok want=>
   rw [hc] at h
   simp only at h
   split at h
   ·cases h
    unfold cutB at hc
    split at hc
    ·cases hc
    ·split at hc
     ·cases hc
     ·rename_i h8
      exact Nat.le_of_not_lt h8
   ·cases h
theorem recOf_take (ps:List Pc) (k:Nat) (p:Pc) (h:ps[k]?=some p):recOf (ps.take (k+1))=recOf (ps.take k)++p.da:=by
 unfold recOf
 rw [List.take_add_one,h]
 simp
theorem recOf_lt {ps:List Pc} (h: ∀p∈ps,pcOk p): ∀x∈recOf ps,x<256:=fun x hx=>by
 obtain ⟨p,hp,hx⟩:=List.mem_flatMap.1 hx
 exact (h p hp).2.2 x hx
theorem recOf_take_le (ps:List Pc) (k:Nat):(recOf (ps.take k)).length≤(recOf ps).length:=by
 have:recOf ps=recOf (ps.take k)++recOf (ps.drop k):=by
  unfold recOf
  rw [←List.flatMap_append,List.take_append_drop]
 rw [this,List.length_append]
 omega
def JoinR (B:Nat) (w':World) (r:Option (List Nat)) (e:Ending):Prop:=match r with
 | none=>e= .returned (.tuple #[.slice none 0 0, .int .i64 4])
 | some bs=> ∃v',e= .returned (.tuple #[v', .int .i64 0])∧LOut en8 1 5 B w' v' bs
theorem wpList_appendNX {α:Type} {en:α→List Value} {k:Nat} {e t:TypeId} {P:Program} {ops:Array Oper} {rest:List Oper} {a:Act} {Q:Exit→Act→World→Prop} (E:ElT P t e k en) {B:Nat} {w:World} {v u:Value} {xs ys:List α} (h:LOut en k e B w v xs) (hu:LSl en k w u ys) (hsz:xs.length+ys.length≤10000000000) {dst:Option Tmp} {ty:TypeId} {pos:String} {after:Array Edge} {s y:Operand}
  (hs:a.eval s=v) (hy:a.eval y=u)
  (hk: ∀v' w',LOut en k e B w' v' (xs++ys)→w.grownBy w' v.ownBlock→(v'.ownBlock=v.ownBlock∨v'.ownBlock=some w.heap.size)→wpList P ops Q rest (a.put dst v') w'):
  wpList P ops Q ({dst:=dst,op:= .call {callee:= .builtin .append,args:= #[s,y],argTypes:= #[t,t]},type:=ty,pos:=pos,after:=after,guard:=none}::rest) a w:=by
 obtain ⟨v',w',hr,ho,hg,hl⟩:=run_appendMX E (ty:=ty) h hu hsz
 refine wpList_exec rfl (v:=v') (w':=w') ?_ (hk v' w' ho hg hl)
 simp only [execOp,resolve,invoke,builtin,Sem.run_bind,Sem.run_pure,Result.andThen_ok,List.map_toArray,List.map_cons,List.map_nil,hs,hy,hr]
set_option maxRecDepth 20000 in
set_option maxHeartbeats 4000000 in
theorem join_any (w:World) (v:Value) (ps:List Pc) (h:PcsI w v ps) (hok: ∀p∈ps,pcOk p) (hl:(recOf ps).length≤500000) (hn:ps.length≤100000):
  Calls Tryz.prog 118 #[v] w fun e w'=>Below w.heap.size w w'∧JoinR w.heap.size w' (joinB ps) e:=by
 obtain ⟨xs,hxs,hL,hD⟩:=h
 have hxl:xs.length=ps.length:=by rw [←hxs];simp
 have hL0:=hL
 obtain ⟨ao,cap,rfl,h1,h2,h3⟩:=hL
 rw [hxl] at h1 h3 hL0 ⊢
 unfold maxLen at h2
 have HOK:=Lib.hid hok
 have HXS:=Lib.hid hxs
 have HL:=Lib.hid hL0
 have HD:=Lib.hid hD
 have HXL:=Lib.hid hxl
 clear hok hxs hL0 hD hxl
 have h63:(ps.length:Int)≤100000:=by omega
 go_enter Tryz.func118,Tryz.ntmps118
 go_wp2_with fail
 go_loopw [4,14] (fun av iv wi=> ∃k:Nat,k≤ps.length∧iv= .int .i64 k∧LOut en8 1 5 w.heap.size wi av (recOf (ps.take k))∧Below w.heap.size w wi) (fun _ iv _=>ps.length-(intOf iv).toNat)
 case atStart=>exact ⟨0,Nat.zero_le _,rfl,LOut.nil (Nat.le_refl _),Below.refl _ _⟩
 case round=>
  obtain ⟨k,hk,rfl,hO,hb⟩:=hrel
  by_cases hkl:k<ps.length
  ·have hkl':(k:Int)<(ps.length:Int):=by omega
   obtain ⟨x,hx⟩: ∃x,xs[k]?=some x:=⟨_,List.getElem?_eq_getElem (by rw [HXL.out];exact hkl)⟩
   obtain ⟨b,off,rfl,hbl,hcells⟩:=h3 (by omega)
   have hlies:=hcells k x hx
   have hpx:ps[k]?=some x.1:=by rw [←HXS.out,List.getElem?_map,hx];rfl
   have hrt:=recOf_take ps k x.1 hpx
   have hrl:=recOf_take_le ps (k+1)
   have hdx:=HD.out x (List.mem_of_getElem? hx)
   rw [hrt,List.length_append] at hrl
   have hsz:(recOf (ps.take k)).length+x.1.da.length≤10000000000:=by omega
   have HO:=Lib.hid hO
   have HB:=Lib.hid hb
   have HRT:=Lib.hid hrt
   obtain ⟨⟨ep,ct,fi,la,da⟩,⟨da0,dn,dc⟩⟩:=x
   have HLS:Hid (Lies wr b (off+k*5) #[.int .u64 ep, .int .u64 ct, .bool fi, .bool la, .slice da0 dn dc]):=Lib.hid (hlies.below' hb hbl)
   have HDX:Hid (LSl en8 1 w (.slice da0 dn dc) da):=Lib.hid hdx
   clear hx hcells hlies hpx hrt hdx hO hb
   go_upto_region 5 with (first
    | ((with_reducible refine wpList_loadA (aggPc _ _ _ _ _) HLS.out ?_ ?_);rfl;go_frame)
    | fail)
   have hb1:Below wr.heap.size wr (wr.alloc (.cells #[.int .u64 ep, .int .u64 ct, .bool fi, .bool la, .slice da0 dn dc] 222)):=(Below.refl _ _).alloc (Nat.le_refl _) _
   have HO1:=Lib.hid (HO.out.below hb1)
   have HD1:=Lib.hid ((HDX.out.below HB.out).below hb1)
   clear hb1
   go_wp2_with (first
    | ((with_reducible refine wpList_appendNX el8 HO1.out HD1.out hsz ?_ ?_ ?_);rfl;rfl;(intro v5 w5 hO5 hg5 hl5;have HO5:=Lib.hid hO5;have HG5:=Lib.hid hg5;clear hO5 hg5 hl5);go_frame)
    | fail)
   have hlo: ∀b,u4.ownBlock=some b→w.heap.size≤b:=HO.out.lo
   have hb5:Below w.heap.size w w5:=(HB.out.alloc HB.out.size _).grown HG5.out (by have:=HB.out.size;simp;omega) hlo
   go_roundw
   case rel=>exact ⟨k+1,by omega,by go_num,by rw [HRT.out];exact HO5.out,hb5⟩
   case measure=>simp [intOf];omega
  ·obtain rfl:k=ps.length:=by omega
   rw [List.take_length] at hO
   obtain ⟨a5,n5,c5,rfl⟩:=hO.shape
   have HO:=Lib.hid hO
   have HB:=Lib.hid hb
   clear hO hb
   by_cases h0:ps= []
   ·subst h0
    simp only [List.length_nil,Int.ofNat_zero] at*
    go_wp2
    go_ret2
    exact ⟨HB.out,rfl⟩
   ·have hpos:=List.length_pos_iff.2 h0
    have hps0:((ps.length:Int)==0)=false:=by simp;omega
    go_upto_region 9 with fail
    obtain ⟨x0,hx0⟩: ∃x,xs[0]?=some x:=⟨_,List.getElem?_eq_getElem (by rw [HXL.out];exact hpos)⟩
    obtain ⟨b,off,rfl,hbl,hcells⟩:=h3 (by omega)
    have hlies:=hcells 0 x0 hx0
    have hp0:ps[0]?=some x0.1:=by rw [←HXS.out,List.getElem?_map,hx0];rfl
    have hok0:=HOK.out x0.1 (List.mem_of_getElem? hp0)
    obtain ⟨⟨ep,ct,fi,la,da⟩,⟨da0,dn,dc⟩⟩:=x0
    have hS:Lies wr.drew b off #[.int .u64 ep, .int .u64 ct, .bool fi, .bool la, .slice da0 dn dc]:=by
     have:=hlies.below' HB.out hbl
     rw [Nat.zero_mul] at this
     exact this
    have hcut:=cut_any wr.drew ep ct (.slice a5 n5 c5) (recOf ps) ((HO.out.below (Below.refl _ _).drew).sl el8.len) hok0.1 hok0.2.1 hl
    have hjoin:joinB ps=match cutB ep ct (recOf ps) with| .ok want=>if want=ps then some (recOf ps) else none| .error _=>none:=by
     cases ps with
     | nil=>simp at hpos
     | cons p t=>cases hp0;rfl
    have HJ:=Lib.hid hjoin
    clear hx0 hlies hp0 hok0 hcells hjoin
    refine wp_region_x (fun w'=>Lies w' b off #[.int .u64 ep, .int .u64 ct, .bool fi, .bool la, .slice da0 dn dc]) [(0,1),(1,1),(2,1),(3,0),(4,1),(5,1),(6,1),(7,0),(8,1),(9,2),(10,1),(11,1),(12,1),(13,1),(14,1)] (by kernel_rfl) (by kernel_rfl) (by intro d v c a w h;cases d<;>exact h) ?_
    iterate 3 (refine x_take rfl (fun K hK=> ?_);go_simp;refine hK _ ?_;clear hK K)
    refine x_read rfl hS (fun w' h=>exec_load1 ⟨⟨_,Tryz.underlying37,rfl⟩⟩ rfl (h 0 (by simp))) ?_
    iterate 3 (refine x_take rfl (fun K hK=> ?_);go_simp;refine hK _ ?_;clear hK K)
    refine x_read rfl hS (fun w' h=>exec_load1 ⟨⟨_,Tryz.underlying37,rfl⟩⟩ rfl (h 1 (by simp))) ?_
    iterate 1 (refine x_take rfl (fun K hK=> ?_);go_simp;refine hK _ ?_;clear hK K)
    refine x_show' rfl (fun K hK=> ?_)
    go_simp
    refine hcut.mono ?_
    rintro e w2 ⟨hb2,hR⟩
    have hS2:=hS.below' hb2 (World.block_lt_of_cell? _ _ (hS 0 (by simp)))
    have hb02:Below w.heap.size w w2:=HB.out.drew.trans (hb2.mono HB.out.size)
    have HB2:Hid (Below wr.heap.size wr w2):=Lib.hid ((Below.refl wr.heap.size wr).drew.trans hb2)
    have HB02:=Lib.hid hb02
    unfold CutR at hR
    cases hc:cutB ep ct (recOf ps) with
    | error k=>
     rw [hc] at hR
     simp only at hR
     subst hR
     refine hK _ _ hS2 ?_
     clear hK K
     iterate 5 (refine x_take rfl (fun K hK=> ?_);go_simp;refine hK _ ?_;clear hK K)
     refine x_nil ?_
     have hk:k=2∨k=5:=by
      unfold cutB at hc
      split at hc
      ·cases hc;exact .inl rfl
      ·split at hc
       ·cases hc;exact .inr rfl
       ·cases hc
     have hfin:joinB ps=none:=by rw [HJ.out,hc]
     have HF:=Lib.hid hfin
     clear hS hcut hS2 hb2 hb02 hfin hc
     rcases hk with rfl|rfl
     ·go_wp2
      go_ret2
      exact ⟨HB02.out,by rw [HF.out];rfl⟩
     ·go_wp2
      go_ret2
      exact ⟨HB02.out,by rw [HF.out];rfl⟩
    | ok want=>
     rw [hc] at hR
     simp only at hR
     obtain ⟨v2,rfl,xs2,hxs2,hO2,hD2⟩:=hR
     have hL2:=hO2.sl elPc.len
     have hx2l:xs2.length=want.length:=by rw [←hxs2];simp
     obtain ⟨a6,c6,rfl,hl2,hm2,hc2⟩:=hL2
     rw [hx2l] at hO2 hl2 hc2 ⊢
     unfold maxLen at hm2
     refine hK _ _ hS2 ?_
     clear hK K
     iterate 5 (refine x_take rfl (fun K hK=> ?_);go_simp;refine hK _ ?_;clear hK K)
     refine x_nil ?_
     have hfin:joinB ps=if want=ps then some (recOf ps) else none:=by rw [HJ.out,hc]
     have HF:=Lib.hid hfin
     have hwb: ∀p∈want, ∀x∈p.da,x<256:=by
      unfold cutB at hc
      split at hc
      ·cases hc
      ·split at hc
       ·cases hc
       ·cases hc
        exact cutL_lt (recOf_lt HOK.out) _ _
     have HO2:=Lib.hid hO2
     have HD2:=Lib.hid hD2
     have HX2:=Lib.hid hxs2
     have HX2L:=Lib.hid hx2l
     have HWB:=Lib.hid hwb
     clear hS hcut hS2 hb2 hb02 hfin hc hO2 hD2 hxs2 hx2l hwb
     by_cases hlen:want.length=ps.length
     ·have hne:((want.length:Int) !=(ps.length:Int))=false:=by rw [hlen];simp
      have hwl63:(want.length:Int)≤100000:=by omega
      have hle1:want.length≤ps.length:=by omega
      have hle2:ps.length≤want.length:=by omega
      have HLEN:=Lib.hid hlen
      clear hlen
      go_wp2_with fail
      clear hne
      go_loopw [50] (fun iv wi=> ∃k:Nat,k≤want.length∧iv= .int .i64 k∧want.take k=ps.take k∧Below w2.heap.size w2 wi) (fun iv _=>want.length-(intOf iv).toNat)
      case atStart=>exact ⟨0,Nat.zero_le _,rfl,rfl,Below.refl _ _⟩
      case round=>
       obtain ⟨k,hk,rfl,htk,hbi⟩:=hrel
       by_cases hkl:k<want.length
       ·have hkl':(k:Int)<(want.length:Int):=by omega
        have hkp':(k:Int)<(ps.length:Int):=by omega
        obtain ⟨x1,hx1⟩: ∃x,xs[k]?=some x:=⟨_,List.getElem?_eq_getElem (by rw [HXL.out];omega)⟩
        obtain ⟨x2,hx2⟩: ∃x,xs2[k]?=some x:=⟨_,List.getElem?_eq_getElem (by rw [HX2L.out];omega)⟩
        have hb0i:Below w.heap.size w wr:=HB02.out.trans (hbi.mono HB02.out.size)
        obtain ⟨bb,oo,hbo,hbb,hcells⟩:=h3 (by omega)
        cases hbo
        have hp1:ps[k]?=some x1.1:=by rw [←HXS.out,List.getElem?_map,hx1];rfl
        have hp2:want[k]?=some x2.1:=by rw [←HX2.out,List.getElem?_map,hx2];rfl
        have hlw:=World.block_lt_of_cell? _ _ (show wr.cell? ⟨b,off+k*5+0,none⟩=_ from (hcells k x1 hx1).below' hb0i hbb 0 (by simp [enPc]))
        have hl1:=(hcells k x1 hx1).below' hb0i hbb
        obtain ⟨b2,o2,rfl,hbb2,hcells2⟩:=hc2 (by omega)
        have hl2':=(hcells2 k x2 hx2).below' hbi hbb2
        have hd1:=(HD.out x1 (List.mem_of_getElem? hx1)).below hb0i
        have hd2:=(HD2.out x2 (List.mem_of_getElem? hx2)).1.below hbi
        have hby1:=(HOK.out x1.1 (List.mem_of_getElem? hp1)).2.2
        have hby2:=HWB.out x2.1 (List.mem_of_getElem? hp2)
        obtain ⟨⟨p,q,s,t,u⟩,⟨da1,dn1,dc1⟩⟩:=x1
        obtain ⟨⟨p2,q2,s2,t2,u2⟩,⟨da2,dn2,dc2⟩⟩:=x2
        have HL1:Hid (Lies wr b (off+k*5) #[.int .u64 p, .int .u64 q, .bool s, .bool t, .slice da1 dn1 dc1]):=Lib.hid hl1
        have hl2w:Lies (wr.alloc (.cells #[.int .u64 p2, .int .u64 q2, .bool s2, .bool t2, .slice da2 dn2 dc2] 222)) b (off+k*5) #[.int .u64 p, .int .u64 q, .bool s, .bool t, .slice da1 dn1 dc1]:=
         Lies.below' hl1 ((Below.refl wr.heap.size wr).alloc (Nat.le_refl _) _) hlw
        have HL1A:=Lib.hid hl2w
        have HL2:Hid (Lies wr b2 (o2+k*5) #[.int .u64 p2, .int .u64 q2, .bool s2, .bool t2, .slice da2 dn2 dc2]):=Lib.hid hl2'
        have heq:=fun w3 (hb3:Below wr.heap.size wr w3)=>equal_any w3 (.slice da2 dn2 dc2) (.slice da1 dn1 dc1) u2 u (LSl.below hd2 hb3) (LSl.below hd1 hb3) hby2 hby1
        have hb3:Below wr.heap.size wr ((wr.alloc (.cells #[.int .u64 p2, .int .u64 q2, .bool s2, .bool t2, .slice da2 dn2 dc2] 222)).alloc (.cells #[.int .u64 p, .int .u64 q, .bool s, .bool t, .slice da1 dn1 dc1] 222)):=
         ((Below.refl _ _).alloc (Nat.le_refl _) _).alloc (by simp) _
        have heq:=heq _ hb3
        have HBI:=Lib.hid hbi
        have HB3:=Lib.hid hb3
        have HTK:=Lib.hid htk
        have HP1:=Lib.hid hp1
        have HP2:=Lib.hid hp2
        clear hx1 hx2 hp1 hp2 hl1 hl2' hd1 hd2 hby1 hby2 hl2w hbi hb3 htk hb0i hcells hcells2 hlw
        by_cases hpe:(⟨p2,q2,s2,t2,u2⟩:Pc)=⟨p,q,s,t,u⟩
        ·cases hpe
         have hdec:decide (u=u)=true:=by simp
         rw [hdec] at heq
         go_upto_region 16 with (first
          | ((with_reducible refine wpList_loadA (aggPc _ _ _ _ _) HL2.out ?_ ?_);rfl;go_frame)
          | ((with_reducible refine wpList_loadA (aggPc _ _ _ _ _) HL1A.out ?_ ?_);rfl;go_frame)
          | fail)
         go_wp2_with (first
          | (go_at_call 66;refine heq.mono ?_;rintro e w3 ⟨rfl,hw⟩;obtain rfl:=hw.symm;clear hw)
          | fail)
         go_roundw
         case rel=>exact ⟨k+1,by omega,by go_num,by rw [List.take_add_one,List.take_add_one,HTK.out,HP1.out,HP2.out],HBI.out.trans (HB3.out.mono HBI.out.size)⟩
         case measure=>simp [intOf];omega
        ·have hno:¬ want=ps:=fun e=>by
          have h1:=HP1.out
          have h2:=HP2.out
          rw [e,h1] at h2
          exact hpe (Option.some.inj h2).symm
         rw [if_neg hno] at HF
         clear hno
         by_cases hp:p2=p
         rotate_left
         ·have hxp:((p2:Int) !=(p:Int))=true:=by rw [bne_iff_ne];omega
          clear hpe
          go_wp2_with (first
           | ((with_reducible refine wpList_loadA (aggPc _ _ _ _ _) HL2.out ?_ ?_);rfl;go_frame)
           | ((with_reducible refine wpList_loadA (aggPc _ _ _ _ _) HL1A.out ?_ ?_);rfl;go_frame)
           | (go_at_call 66;refine heq.mono ?_;rintro e w3 ⟨rfl,hw⟩;obtain rfl:=hw.symm;clear hw)
           | fail)
          go_ret2
          exact ⟨HB02.out.trans ((HBI.out.trans (HB3.out.mono HBI.out.size)).mono HB02.out.size),by rw [HF.out];rfl⟩
         subst hp
         by_cases hq:q2=q
         rotate_left
         ·have hxq:((q2:Int) !=(q:Int))=true:=by rw [bne_iff_ne];omega
          clear hpe
          go_wp2_with (first
           | ((with_reducible refine wpList_loadA (aggPc _ _ _ _ _) HL2.out ?_ ?_);rfl;go_frame)
           | ((with_reducible refine wpList_loadA (aggPc _ _ _ _ _) HL1A.out ?_ ?_);rfl;go_frame)
           | (go_at_call 66;refine heq.mono ?_;rintro e w3 ⟨rfl,hw⟩;obtain rfl:=hw.symm;clear hw)
           | fail)
          go_ret2
          exact ⟨HB02.out.trans ((HBI.out.trans (HB3.out.mono HBI.out.size)).mono HB02.out.size),by rw [HF.out];rfl⟩
         subst hq
         by_cases hs:s2=s
         rotate_left
         ·have hxs:(s2 !=s)=true:=by rw [bne_iff_ne];exact hs
          clear hpe
          go_wp2_with (first
           | ((with_reducible refine wpList_loadA (aggPc _ _ _ _ _) HL2.out ?_ ?_);rfl;go_frame)
           | ((with_reducible refine wpList_loadA (aggPc _ _ _ _ _) HL1A.out ?_ ?_);rfl;go_frame)
           | (go_at_call 66;refine heq.mono ?_;rintro e w3 ⟨rfl,hw⟩;obtain rfl:=hw.symm;clear hw)
           | fail)
          go_ret2
          exact ⟨HB02.out.trans ((HBI.out.trans (HB3.out.mono HBI.out.size)).mono HB02.out.size),by rw [HF.out];rfl⟩
         subst hs
         by_cases ht:t2=t
         rotate_left
         ·have hxt:(t2 !=t)=true:=by rw [bne_iff_ne];exact ht
          clear hpe
          go_wp2_with (first
           | ((with_reducible refine wpList_loadA (aggPc _ _ _ _ _) HL2.out ?_ ?_);rfl;go_frame)
           | ((with_reducible refine wpList_loadA (aggPc _ _ _ _ _) HL1A.out ?_ ?_);rfl;go_frame)
           | (go_at_call 66;refine heq.mono ?_;rintro e w3 ⟨rfl,hw⟩;obtain rfl:=hw.symm;clear hw)
           | fail)
          go_ret2
          exact ⟨HB02.out.trans ((HBI.out.trans (HB3.out.mono HBI.out.size)).mono HB02.out.size),by rw [HF.out];rfl⟩
         subst ht
         have hu:¬ u2=u:=fun e=>hpe (by rw [e])
         have hdec:decide (u2=u)=false:=by simp [hu]
         rw [hdec] at heq
         clear hu hdec
         clear hpe
         go_wp2_with (first
          | ((with_reducible refine wpList_loadA (aggPc _ _ _ _ _) HL2.out ?_ ?_);rfl;go_frame)
          | ((with_reducible refine wpList_loadA (aggPc _ _ _ _ _) HL1A.out ?_ ?_);rfl;go_frame)
          | (go_at_call 66;refine heq.mono ?_;rintro e w3 ⟨rfl,hw⟩;obtain rfl:=hw.symm;clear hw)
          | fail)
         go_ret2
         exact ⟨HB02.out.trans ((HBI.out.trans (HB3.out.mono HBI.out.size)).mono HB02.out.size),by rw [HF.out];rfl⟩
       ·obtain rfl:k=want.length:=by omega
        have hfe:want=ps:=by
         rw [List.take_length,HLEN.out,List.take_length] at htk
         exact htk
        rw [if_pos hfe] at HF
        have HBI:=Lib.hid hbi
        have HT:=Lib.hid htk
        clear hfe hbi htk
        have hOf:LOut en8 1 5 w.heap.size wr (.slice a5 n5 c5) (recOf ps):=(HO.out.below HB2.out).below HBI.out
        have HOF:=Lib.hid hOf
        clear hOf
        go_wp2
        go_ret2
        exact ⟨HB02.out.trans (HBI.out.mono HB02.out.size),by rw [HF.out];exact ⟨_,rfl,HOF.out⟩⟩
     ·have hne:((want.length:Int) !=(ps.length:Int))=true:=by rw [bne_iff_ne];omega
      rw [if_neg (fun e=>hlen (by rw [e]))] at HF
      go_wp2
      go_ret2
      exact ⟨HB02.out,by rw [HF.out];rfl⟩
end Go.Proofs.YtjdbbnhnbdocbaaGreat
