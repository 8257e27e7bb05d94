import Derived.Test.YtjdbbnhnbdocbaaGreatMgGon24
import Derived.Test.YtjdbbnhnbdocbaaGreatMgGon6
import Derived.Test.YtjdbbnhnbdocbaaGreatMgGon15
import Derived.Test.YtjdbbnhnbdocbaaGreatMgGon23
import Derived.Test.YtjdbbnhnbdocbaaGreatMgGon10
import Derived.Test.YtjdbbnhnbdocbaaGreatMgGon9
namespace Go.Proofs.YtjdbbnhnbdocbaaGreat
open Go.RowKit Go.Tn Go.Tn.Bt Go.Tn.Lp Go.Tn.Ino Go.Tn.Dr Go.Tn.Names
def enBk (x:List Nat×Sv):List Value:= [sv x.2]
theorem elBk:ElT Tryz.prog 229 44 1 enBk:=⟨Tryz.underlying229,by kernel_rfl,by omega,fun _=>rfl,fun x u hu=>by
 simp only [enBk,List.mem_cons,List.not_mem_nil,or_false] at hu
 rw [hu]
 rfl⟩
def BkO (B:Nat) (w:World) (v:Value) (hs:List (List Nat)):Prop:= ∃xs:List (List Nat×Sv),xs.map (·.1)=hs∧LOut enBk 1 44 B w v xs∧
 ∀x∈xs,LSl en8 1 w (sv x.2) x.1∧ ∀r,(sv x.2).ownBlock=some r→B≤r∧r<w.heap.size∧v.ownBlock≠some r
def BkR (w:World) (v:Value) (hs:List (List Nat)):Prop:= ∃xs:List (List Nat×Sv),xs.map (·.1)=hs∧LSl enBk 1 w v xs∧ ∀x∈xs,LSl en8 1 w (sv x.2) x.1
theorem BkO.r {B:Nat} {w:World} {v:Value} {hs:List (List Nat)} (h:BkO B w v hs):BkR w v hs:=by
 obtain ⟨xs,h1,h2,h3⟩:=h
 exact ⟨xs,h1,h2.sl elBk.len,fun x hx=>(h3 x hx).1⟩
theorem BkR.below {w w':World} {v:Value} {hs:List (List Nat)} (h:BkR w v hs) (hb:Below w.heap.size w w'):BkR w' v hs:=by
 obtain ⟨xs,h1,h2,h3⟩:=h
 exact ⟨xs,h1,h2.below hb,fun x hx=>(h3 x hx).below hb⟩
theorem BkR.get {w:World} {v:Value} {hs:List (List Nat)} (h:BkR w v hs) {i:Nat} {b:List Nat} (hi:hs[i]?=some b): ∃p o cap x,v= .slice (some ⟨p,o,none⟩) hs.length cap∧w.cell? ⟨p,o+i,none⟩=some (sv x)∧p<w.heap.size∧LSl en8 1 w (sv x) b:=by
 obtain ⟨xs,h1,h2,h3⟩:=h
 rw [←h1,List.getElem?_map] at hi
 obtain ⟨y,hy,rfl⟩:=Option.map_eq_some_iff.1 hi
 obtain ⟨p,o,cap,hv,hp,hl⟩:=h2.at_ hy
 refine ⟨p,o,cap,y.2,by rw [hv, ←h1,List.length_map],?_,hp,h3 y (List.mem_of_getElem? hy)⟩
 have:w.cell? ⟨p,o+i*1+0,none⟩=some (sv y.2):=hl 0 (by show 0<1;decide)
 rwa [Nat.mul_one,Nat.add_zero] at this
theorem BkO.below {B:Nat} {w w':World} {v:Value} {hs:List (List Nat)} (h:BkO B w v hs) (hb:Below w.heap.size w w'):BkO B w' v hs:=by
 obtain ⟨xs,h1,h2,h3⟩:=h
 exact ⟨xs,h1,h2.kept hb.size (fun r hr=>hb.block r (h2.lt hr)),fun x hx=>⟨(h3 x hx).1.below hb,fun r hr=>⟨((h3 x hx).2 r hr).1,Nat.lt_of_lt_of_le ((h3 x hx).2 r hr).2.1 hb.size,((h3 x hx).2 r hr).2.2⟩⟩⟩
theorem BkO.nil {B:Nat} {w:World} (h:B≤w.heap.size):BkO B w (.slice none 0 0) []:=⟨[],rfl,LOut.nil h,fun x hx=>by cases hx⟩
theorem BkO.shape {B:Nat} {w:World} {v:Value} {hs:List (List Nat)} (h:BkO B w v hs): ∃a c,v= .slice a hs.length c:=by
 obtain ⟨xs,h1,h2, -⟩:=h
 obtain ⟨ao,cap,rfl, -⟩:=h2.sl elBk.len
 exact ⟨_,_,by rw [←h1,List.length_map]⟩
theorem BkO.own {B:Nat} {w:World} {v:Value} {hs:List (List Nat)} (h:BkO B w v hs): ∀r,v.ownBlock=some r→B≤r∧r<w.heap.size:=by
 obtain ⟨xs,h1,h2, -⟩:=h
 exact fun r hr=>⟨h2.lo r hr,h2.lt hr⟩
theorem wpList_appendBk {ops:Array Oper} {rest:List Oper} {A:Act} {Q:Exit→Act→World→Prop} {B:Nat} {w wx:World} {v:Value} {hs:List (List Nat)} (h:BkO B w v hs) {a:Option Addr} {n c:Nat} {b:List Nat} (hb:LSl en8 1 w (.slice a n c) b) (hbo: ∀r,(Value.slice a n c).ownBlock=some r→B≤r∧r<w.heap.size∧v.ownBlock≠some r)
  (hsz:hs.length≤1000) {dst:Option Tmp} {ty:TypeId} {pos:String} {after:Array Edge} {s y:Operand}
  (hwx:wx=w.alloc (.cells #[.slice a n c] 44)) (hv:A.eval s=v) (hy:A.eval y= .slice (some ⟨w.heap.size,0,none⟩) 1 1)
  (hk: ∀v' w',BkO B w' v' (hs++ [b])→Below B w w'→wpList Tryz.prog ops Q rest (A.put dst v') w'):
  wpList Tryz.prog ops Q ({dst:=dst,op:= .call {callee:= .builtin .append,args:= #[s,y],argTypes:= #[229,229]},type:=ty,pos:=pos,after:=after,guard:=none}::rest) A wx:=by
 obtain ⟨xs,h1,h2,h3⟩:=h
 have hle:=h2.le
 refine wpList_append1Y elBk h2 (b,(a,n,c)) (by rw [←List.length_map (f:=fun x:List Nat×Sv=>x.1),h1];omega) hwx hv hy fun v' w' hO hm hown=>hk v' w' ⟨xs++ [(b,(a,n,c))],by rw [List.map_append,h1];rfl,hO,fun x hx=> ?_⟩ (hm.below h2.le fun r hr e=>absurd (h2.lo r e) (Nat.not_le.2 hr))
 have key:LSl en8 1 w (sv x.2) x.1∧ ∀r,(sv x.2).ownBlock=some r→B≤r∧r<w.heap.size∧v.ownBlock≠some r:=by
  rcases List.mem_append.1 hx with hx|hx
  ·exact h3 x hx
  ·rw [List.mem_singleton.1 hx]
   exact ⟨hb,hbo⟩
 refine ⟨key.1.mod hm fun r hr e=>(key.2 r hr).2.2 e,fun r hr=>⟨(key.2 r hr).1,Nat.lt_of_lt_of_le (key.2 r hr).2.1 hm.size,fun e=> ?_⟩⟩
 rcases hown with e'|⟨r',e',hr'⟩
 ·exact (key.2 r hr).2.2 (e' ▸ e)
 ·rw [e'] at e
  cases e
  exact absurd (key.2 r hr).2.1 (Nat.not_lt.2 hr')
def bkLen:Value→Nat
 | .slice _ n _=>n
 | _=>0
theorem sizeEn:(Tryz.prog.info? 64).map (·.size)=some 4:=by kernel_rfl
theorem dirB_take {l:List Ent} {j:Nat} (hj:j<(l.length+4)/5):(dirB l).take (j+1)=(dirB l).take j++ [dirSec ((l.drop (5*j)).take 5)]:=by
 rw [List.take_add_one,dirB_get hj]
 rfl
set_option maxRecDepth 20000 in
set_option maxHeartbeats 8000000 in
theorem eblocks_any (w:World) (v:Value) (l:List Ent) (h:LSl enEn 4 w v l) (hok: ∀e∈l,Ent.ok e) (hr:Dr.Rise l) (h24:l.length≤24):Calls Tryz.prog 134 #[v] w
  fun e w'=> ∃v',e= .returned (.tuple #[v', .int .i64 0])∧BkO w.heap.size w' v' (dirB l)∧Below w.heap.size w w':=by
 have hri:=erising_any w v l h hr
 have H:=Lib.hid h
 have HOK:=Lib.hid hok
 obtain ⟨a0,n0,c0,hv⟩: ∃a n c,v= .slice a n c:=by
  obtain ⟨ao,cap,rfl, -⟩:=h
  exact ⟨_,_,_,rfl⟩
 have hn0:n0=l.length:=by
  obtain ⟨ao,cap,hv', -⟩:=h
  rw [hv] at hv'
  cases hv'
  rfl
 subst hv
 subst hn0
 have hlen:(l.length:Int)≤24:=by omega
 clear h hok hr
 go_enter Tryz.func134,Tryz.ntmps134
 go_wp2_with (first
  | (go_at_call 179;refine hri.mono ?_;rintro e w2 ⟨rfl,hb2⟩;have HB2:=Lib.hid hb2;have hcn:=econtainsR_any w2 _ l (H.out.below hb2) HOK.out;clear hb2)
  | (go_at_call 150;refine hcn.mono ?_;rintro e w3 ⟨rfl,hb3⟩;have HB3:=Lib.hid (HB2.out.trans (hb3.mono HB2.out.size));clear hb3)
  | fail)
 go_loopw [0,4] (fun lv ov wi=> ∃j:Nat,j≤(l.length+4)/5∧LSl enEn 4 w lv (l.drop (5*j))∧BkO w.heap.size wi ov ((dirB l).take j)∧Below w.heap.size w wi) (fun lv _ _=>bkLen lv)
 case atStart=>exact ⟨0,Nat.zero_le _,H.out,BkO.nil HB3.out.size,HB3.out⟩
 case round=>
  obtain ⟨wo,hwo⟩: ∃wo,wo=wr:=⟨_,rfl⟩
  subst hwo
  obtain ⟨j,hj,hL,hO,hb⟩:=hrel
  have HB:=Lib.hid hb
  have HO:=Lib.hid hO
  have HL:=Lib.hid hL
  obtain ⟨m,hm⟩: ∃m,(l.drop (5*j)).length=m:=⟨_,rfl⟩
  obtain ⟨ao,cap,rfl,h1,h2, -⟩:=hL
  rw [hm] at h1 ⊢
  unfold maxLen at h2
  have hm24:m≤24:=by rw [←hm,List.length_drop];omega
  have hmi:(m:Int)≤24:=by omega
  have HM:=Lib.hid hm
  obtain ⟨ao2,co2,hov⟩:=hO.shape
  generalize ((dirB l).take j).length=no2 at hov
  subst hov
  have hob: ∀w9,Below wo.heap.size wo w9→BkO w.heap.size w9 (.slice ao2 no2 co2) ((dirB l).take j):=fun w9 h9=>hO.below h9
  have hoo: ∀r,(Value.slice ao2 no2 co2).ownBlock=some r→r<wo.heap.size:=fun r hr=>(hO.own r hr).2
  have hbo:=hb.size
  clear hb hO hm
  by_cases hm0:0<m
  ·have hm0':(0:Int)<(m:Int):=by omega
   obtain ⟨q,hq⟩: ∃q,min m 5=q:=⟨_,rfl⟩
   have hmin:min (m:Int) 5=(q:Int):=by omega
   have hq1:1≤q:=by omega
   have hq5:q≤5:=by omega
   have hqm:q≤m:=by omega
   have hqc:q≤cap:=by omega
   have hq0':(0:Int)≤(q:Int):=by omega
   have hqm':(q:Int)≤(m:Int):=by omega
   have hjD:j<(l.length+4)/5:=by have:=HM.out;rw [List.length_drop] at this;omega
   have hbn:=bNew_any wo
   have HQ:=Lib.hid hq
   clear hq
   go_wp2_with (first
    | (go_at_call 124;refine hbn.mono ?_;rintro e w3 ⟨rfl,hW3,hb3⟩;have HW3:=Lib.hid hW3;have HB3:=Lib.hid hb3;clear hW3 hb3)
    | ((with_reducible refine wpList_exec rfl (exec_sliceHi Tryz.underlying56 sizeEn hqc ?_ ?_) ?_);rfl;rfl;go_frame)
    | fail)
   obtain ⟨a,ha⟩: ∃a,wo.heap.size=a:=⟨_,rfl⟩
   obtain ⟨R,hR⟩: ∃R,(l.drop (5*j)).take q=R:=⟨_,rfl⟩
   have hRl:R.length=q:=by rw [←hR,List.length_take,HM.out];omega
   have hRok: ∀e∈R,Ent.ok e:=fun e he=>by
    rw [←hR] at he
    exact HOK.out e (List.mem_of_mem_drop (List.mem_of_mem_take he))
   have hget: ∀i e,R[i]?=some e→ ∃b o,ao=some ⟨b,o,none⟩∧b<w.heap.size∧Lies w b (o+i*4) (entC e):=fun i e he=>by
    have hil:i<q:=by rw [←hRl];exact (List.getElem?_eq_some_iff.1 he).1
    rw [←hR,List.getElem?_take_of_lt hil] at he
    obtain ⟨b,o,cp,hv,hb,hl⟩:=sl_ent HL.out he
    cases hv
    exact ⟨b,o,rfl,hb,hl⟩
   have HRR:=Lib.hid hR
   have HRL:=Lib.hid hRl
   have HROK:=Lib.hid hRok
   have HGET:=Lib.hid hget
   rw [ha] at hob hoo hbo
   have HOB:=Lib.hid hob
   have HOO:=Lib.hid hoo
   have HBO0:=Lib.hid hbo
   have hbw:Below a wo w3:=by rw [←ha];exact HB3.out
   have hw3:WrAt w3 a (.slice none 0 0) []:=by rw [←ha];exact HW3.out
   have HBW:=Lib.hid hbw
   have HW3':=Lib.hid hw3
   simp only [ha] at*
   clear ha hR hRl hRok hbn hget hbw hw3 hob hoo hbo
   go_loopw [34] (fun iv wi=> ∃i:Nat,i≤q∧iv= .int .i64 i∧(∃u,WrAt wi a u ((R.take i).flatMap Ent.bits))∧Below a wo wi) (fun iv _=>q-(intOf iv).toNat)
   case atStart=>exact ⟨0,Nat.zero_le _,rfl,⟨_,HW3'.out⟩,HBW.out⟩
   case round=>
    obtain ⟨i,hi,rfl,⟨u,hW⟩,hbi⟩:=hrel
    have HBI:=Lib.hid hbi
    by_cases hiq:i<q
    ·have hiq':(i:Int)<(q:Int):=by omega
     obtain ⟨e0,he⟩: ∃e,R[i]?=some e:=⟨_,List.getElem?_eq_getElem (by rw [HRL.out];exact hiq)⟩
     obtain ⟨b,o,rfl,hba,hlo⟩:=HGET.out i e0 he
     have hLx:=hlo.below' (HB.out.trans (hbi.mono HBO0.out)) hba
     have hag:=aggEn e0
     have hone:=oneEn e0
     have hfit:=(HROK.out e0 (List.mem_of_getElem? he)).fits
     obtain ⟨w4,hw4⟩: ∃w4,wr.alloc (.cells (entC e0) 64)=w4:=⟨_,rfl⟩
     have hb4:Below wr.heap.size wr w4:=by rw [←hw4];exact (Below.refl _ _).alloc (Nat.le_refl _) _
     have hL4:Lies w4 wr.heap.size 0 (entC e0):=lies_of (by rw [←hw4];exact heap_alloc_at)
     have htk:R.take (i+1)=R.take i++ [e0]:=by rw [List.take_add_one,he];rfl
     have hpu:=eput_any (hW.below hb4) e0 hfit (by rw [ents_len,List.length_take];omega)
     have hnx:(R.take i).flatMap Ent.bits++e0.bits=(R.take (i+1)).flatMap Ent.bits:=by rw [htk];simp
     rw [hnx] at hpu
     have has:a≤wr.heap.size:=Nat.le_of_lt (lt_of_block hW.blk)
     have HB4:=Lib.hid (HBI.out.trans (hb4.mono has))
     have hsz4:(entC e0).size=4:=rfl
     clear hlo hfit hb4 hW htk hnx hbi he
     go_upto_region 12 with (first
      | ((with_reducible refine wpList_loadA hag hLx ?_ ?_);rfl;go_frame)
      | ((with_reducible refine wpList_storeA_new hag ?_ hone ?_ ?_ ?_);(rw [hsz4];rfl);rfl;rfl;go_frame)
      | fail)
     simp only [hw4] at*
     clear hw4
     go_wp2_with (first
      | ((with_reducible refine wpList_loadA hag hL4 ?_ ?_);rfl;go_frame)
      | fail)
     refine hpu.mono ?_
     rintro e w5 ⟨rfl,u5,hW5,hb5, -⟩
     have HW5:=Lib.hid hW5
     have HB5:=Lib.hid (HB4.out.trans hb5)
     clear hpu hW5 hb5 hL4 hLx
     go_wp2
     go_roundw
     case rel=>exact ⟨i+1,by omega,by go_num,⟨u5,HW5.out⟩,HB5.out⟩
     case measure=>simp [intOf];omega
    ·obtain rfl:i=q:=by omega
     rw [List.take_of_length_le (by rw [HRL.out];exact Nat.le_refl _)] at hW
     have hbl:(R.flatMap Ent.bits).length=172*i:=by rw [ents_len,HRL.out]
     have hdn:=done_any wr a u (R.flatMap Ent.bits) hW (by rw [hbl];omega)
     obtain ⟨pk,hpk⟩: ∃pk,pack (R.flatMap Ent.bits)=pk:=⟨_,rfl⟩
     have hpl:pk.length=(172*i+7)/8:=by rw [←hpk,pack_len,hbl]
     rw [hpk] at hdn
     have hsec:pk++List.replicate (128-pk.length) 0=dirSec R:=by
      unfold dirSec sector
      rw [hpk]
     have has:a≤wr.heap.size:=Nat.le_of_lt (lt_of_block hW.blk)
     have HSEC:=Lib.hid hsec
     clear hW hbl hpk hbi hsec
     go_wp2_with fail
     refine hdn.mono ?_
     rintro e w8 ⟨v8,rfl,hO8,hb8⟩
     obtain ⟨a8,n8,c8,rfl⟩:=hO8.shape
     obtain ⟨_,_,hv8,_⟩:=hO8.sl el8.len
     obtain rfl:n8=pk.length:=by
      simp at hv8
      exact hv8.2.1
     obtain ⟨P,hP⟩: ∃P,pk.length=P:=⟨_,rfl⟩
     obtain ⟨z,hz⟩: ∃z,128-pk.length=z:=⟨_,rfl⟩
     have hz2:(128:Int)-(P:Int)=(z:Int):=by omega
     have hpl1:pk.length+z≤100000:=by omega
     have hP1:(P:Int)≤128:=by omega
     have HB8:=Lib.hid (HBI.out.trans (hb8.mono has))
     rw [hP] at hO8 ⊢
     have HSEC2:Hid (pk++List.replicate z 0=dirSec R):=Lib.hid (by rw [←hz];exact HSEC.out)
     have HO8:=Lib.hid hO8
     have HAS:=Lib.hid has
     clear hv8 hb8 hdn hz hP hpl
     go_upto_region 15 with fail
     have hO8:=HO8.out
     have hj100:((dirB l).take j).length≤1000:=by rw [List.length_take,dirB_len];omega
     obtain ⟨ad,had⟩: ∃ad,(if cap=i then ao else ao.map (·.add (i*4)))=ad:=⟨_,rfl⟩
     obtain ⟨ln,hln⟩: ∃ln,m-i=ln:=⟨_,rfl⟩
     obtain ⟨cn,hcn⟩: ∃cn,cap-i=cn:=⟨_,rfl⟩
     have HAD:=Lib.hid had
     have HLN:=Lib.hid hln
     have HCN:=Lib.hid hcn
     clear had hln hcn
     go_wp2_with (first
      | ((with_reducible refine wpList_appendZ el8 Tryz.underlying3 0 en8_0 zero8 hO8 z hpl1 ?_ ?_ ?_);rfl;rfl;(intro v9 w9 hO9 hb9;rw [HSEC2.out] at hO9;obtain ⟨a9,n9,c9,rfl⟩:=hO9.shape;have HB9:=Lib.hid (HB8.out.trans (hb9.mono HAS.out));have HOX:=Lib.hid (HOB.out w9 HB9.out);have HSL:=Lib.hid (hO9.sl el8.len);have HBN:Hid (∀r,(Value.slice a9 n9 c9).ownBlock=some r→w.heap.size≤r∧r<w9.heap.size∧(Value.slice ao2 no2 co2).ownBlock≠some r):=Lib.hid (fun r hr=>⟨Nat.le_trans (Nat.le_trans HBO0.out HAS.out) (hO9.lo r hr),hO9.lt hr,fun e=>absurd (HOO.out r e) (Nat.not_lt.2 (Nat.le_trans HAS.out (hO9.lo r hr)))⟩);clear hO9 hb9);go_frame)
      | ((with_reducible refine wpList_appendBk HOX.out HSL.out HBN.out hj100 ?_ ?_ ?_ ?_);rfl;rfl;rfl;(intro v10 w10 hO10 hb10;have HO10:=Lib.hid hO10;have HB10:=Lib.hid hb10;clear hO10 hb10);go_frame)
      | ((with_reducible refine wpList_exec rfl (exec_sliceLo2 Tryz.underlying56 sizeEn hqm HAD.out HLN.out HCN.out ?_ ?_) ?_);rfl;rfl;go_frame)
      | fail)
     have hd:=HL.out
     rw [HM.out] at hd
     have hd2:=hd.drop2 (i:=i) (by rw [HM.out];exact hqm) HAD.out HLN.out HCN.out
     have hdd:(l.drop (5*j)).drop i=l.drop (5*(j+1)):=by
      have h1:=HM.out
      have h2:=HQ.out
      rw [List.length_drop] at h1
      rw [List.drop_drop]
      by_cases h5:i=5
      ·rw [h5]
       congr 1
      ·rw [List.drop_of_length_le (by omega),List.drop_of_length_le (by omega)]
     have htk:dirSec R=dirSec ((l.drop (5*j)).take 5):=by
      rw [←HRR.out]
      by_cases h5:i=5
      ·rw [h5]
      ·have h1:=HM.out
       have h2:=HQ.out
       rw [List.take_of_length_le (by omega),List.take_of_length_le (by omega)]
     rw [hdd] at hd2
     refine ⟨⟨j+1,by omega,hd2,?_,HB.out.trans ((HB9.out.mono HBO0.out).trans HB10.out)⟩,?_⟩
     ·rw [dirB_take hjD, ←htk]
      exact HO10.out
     ·show ln<m
      have:=HLN.out
      omega
  ·have hm0':¬ (0:Int)<(m:Int):=by omega
   have hfin:(dirB l).take j=dirB l:=List.take_of_length_le (by
    have:=HM.out
    rw [List.length_drop] at this
    rw [dirB_len]
    omega)
   rw [hfin] at hob
   have HFIN:=Lib.hid (hob wo (Below.refl _ _))
   clear hob hfin
   go_wp2
   go_ret2
   exact ⟨_,rfl,HFIN.out,HB.out⟩
set_option maxHeartbeats 2000000 in
theorem eqblocks_any (w:World) (v u:Value) (hs:List (List Nat)) (h:BkR w v hs) (k:BkR w u hs) (hb: ∀b∈hs,b.length=128∧ ∀x∈b,x<256):Calls Tryz.prog 175 #[v,u, .func (.func 66) #[] #[]] w
  fun e w'=>e= .returned (.bool true)∧Below w.heap.size w w':=by
 have H:=Lib.hid h
 have K:=Lib.hid k
 have HB:=Lib.hid hb
 obtain ⟨xs,hx1,⟨ao,cap,rfl,h1,h2, -⟩, -⟩:=h
 obtain ⟨ys,hy1,⟨bo,bap,rfl,k1,k2, -⟩, -⟩:=k
 have e1:xs.length=hs.length:=by rw [←hx1,List.length_map]
 have e2:ys.length=hs.length:=by rw [←hy1,List.length_map]
 rw [e1] at h1 ⊢
 rw [e2] at k1 ⊢
 unfold maxLen at h2
 have hl63:(hs.length:Int)≤9223372036854775807:=by omega
 have hne:((hs.length:Int) !=(hs.length:Int))=false:=by simp
 clear hx1 hy1 e1 e2 hb
 go_enter Tryz.func175,Tryz.ntmps175
 go_wp2
 go_loopw [17] (fun kv wr=> ∃k:Nat,k≤hs.length∧kv= .int .i64 k∧Below w.heap.size w wr) (fun kv _=>hs.length-(intOf kv).toNat)
 case atStart=>exact ⟨0,Nat.zero_le _,rfl,Below.refl _ _⟩
 case round=>
  obtain ⟨i,hi,rfl,hbw⟩:=hrel
  have HBW:=Lib.hid hbw
  by_cases hil:i<hs.length
  ·have hil':(i:Int)<(hs.length:Int):=by omega
   obtain ⟨b,hbi⟩: ∃b,hs[i]?=some b:=⟨_,List.getElem?_eq_getElem hil⟩
   obtain ⟨p,o,cp,⟨xa,xn,xc⟩,hv,hc,hp,hlx⟩:=(H.out.below hbw).get hbi
   obtain rfl:ao=some ⟨p,o,none⟩:=by injection hv
   obtain ⟨p2,o2,cp2,⟨ya,yn,yc⟩,hv,hc2,hp2,hly⟩:=(K.out.below hbw).get hbi
   obtain rfl:bo=some ⟨p2,o2,none⟩:=by injection hv
   have hb8:=HB.out b (List.mem_of_getElem? hbi)
   have q0:wr.cell? ⟨p,o+i,none⟩=some (.slice xa xn xc):=hc
   have q1:wr.cell? ⟨p2,o2+i,none⟩=some (.slice ya yn yc):=hc2
   have heq:=equal_any wr _ _ b b hlx hly hb8.2 hb8.2
   rw [decide_eq_true rfl] at heq
   clear hc hc2 hlx hly hb8 hbi hbw
   go_wp2_with (first
    | (go_at_call 66;refine heq.mono ?_;rintro e wt ⟨rfl,hw⟩;obtain rfl:=hw.symm;clear hw)
    | fail)
   go_roundw
   case rel=>exact ⟨i+1,by omega,by go_num,HBW.out⟩
   case measure=>simp [intOf];omega
  ·obtain rfl:i=hs.length:=by omega
   go_wp2
   go_ret
   exact ⟨rfl,HBW.out⟩
theorem name_ne {e:Ent} (h:Ent.ok e):(e.name.toList== [])=false:=by
 have:=(isName_len h.name).1
 rw [←bs_eq] at this
 cases hq:e.name.toList with
 | nil=>rw [hq] at this;simp at this
 | cons=>rfl
set_option maxRecDepth 20000 in
set_option maxHeartbeats 8000000 in
theorem eentries_any (w:World) (v:Value) (l:List Ent) (h:BkR w v (dirB l)) (hok: ∀e∈l,Ent.ok e) (hr:Dr.Rise l) (h24:l.length≤24):Calls Tryz.prog 129 #[v] w
  fun e w'=> ∃v',e= .returned (.tuple #[v', .int .i64 0])∧LOut enEn 4 64 w.heap.size w' v' l∧Below w.heap.size w w':=by
 obtain ⟨D,hD⟩: ∃D,(dirB l).length=D:=⟨_,rfl⟩
 have hD5:D=(l.length+4)/5:=by rw [←hD,dirB_len]
 have H:=Lib.hid h
 have HOK:=Lib.hid hok
 have HR:=Lib.hid hr
 obtain ⟨ao,cap,hv⟩: ∃ao cap,v= .slice ao D cap:=by
  obtain ⟨xs,hx1,⟨ao,cap,rfl, -⟩, -⟩:=h
  exact ⟨ao,cap,by rw [←hD, ←hx1,List.length_map]⟩
 subst hv
 have hDl:(D:Int)≤5:=by omega
 have HD:=Lib.hid hD
 have HD5:=Lib.hid hD5
 have H24:=Lib.hid h24
 clear h hok hr hD h24 hD5
 go_enter Tryz.func129,Tryz.ntmps129
 go_wp2
 go_loopw [4,13] (fun ov iv wi=> ∃i:Nat,i≤D∧iv= .int .i64 i∧LOut enEn 4 64 w.heap.size wi ov (l.take (5*i))∧Below w.heap.size w wi) (fun _ iv _=>D-(intOf iv).toNat)
 case atStart=>exact ⟨0,Nat.zero_le _,rfl,by simpa using LOut.nil (Nat.le_refl _),Below.refl _ _⟩
 case round=>
  obtain ⟨wo,hwo⟩: ∃wo,wo=wr:=⟨_,rfl⟩
  subst hwo
  obtain ⟨i,hi,rfl,hO,hb⟩:=hrel
  have HB:=Lib.hid hb
  have HO:=Lib.hid hO
  obtain ⟨oa,on,oc,hov⟩:=hO.shape
  subst hov
  by_cases hil:i<D
  ·have hil':(i:Int)<(D:Int):=by omega
   have hgt:(dirB l)[i]?=some (dirSec ((l.drop (5*i)).take 5)):=dirB_get (by rw [←HD5.out];exact hil)
   obtain ⟨C,hC⟩: ∃C,(l.drop (5*i)).take 5=C:=⟨_,rfl⟩
   rw [hC] at hgt
   have hCl:C.length≤5:=by rw [←hC,List.length_take];omega
   have hCok: ∀e∈C,Ent.ok e:=fun e he=>by
    rw [←hC] at he
    exact HOK.out e (List.mem_of_mem_drop (List.mem_of_mem_take he))
   obtain ⟨B,hBs⟩: ∃B,dirSec C=B:=⟨_,rfl⟩
   rw [hBs] at hgt
   have hBl:B.length=128:=by rw [←hBs];exact dirSec_len hCl
   have hBlt: ∀x∈B,x<256:=by rw [←hBs];exact dirSec_lt C
   have hent: ∀k,k<5→(∀e,C[k]?=some e→entAt (unpack B) (172*k)=e)∧(C[k]?=none→(entAt (unpack B) (172*k)).name=ByteArray.empty):=fun k hk=>by
    rw [←hBs]
    exact entAt_sec hCl (fun e he=>(hCok e he).fits) hk
   obtain ⟨p,o,cp,⟨xa,xn,xc⟩,hv,hc,hp,hlx⟩:=(H.out.below hb).get hgt
   obtain rfl:ao=some ⟨p,o,none⟩:=by injection hv
   have q0:wo.cell? ⟨p,o+i,none⟩=some (.slice xa xn xc):=hc
   have hop:=ropen_any wo _ B hlx hBlt (by omega)
   have HC:=Lib.hid hC
   have HCL:=Lib.hid hCl
   have HCOK:=Lib.hid hCok
   have HBL:=Lib.hid hBl
   have HENT:=Lib.hid hent
   clear hv hc hlx hgt hC hCl hCok hBs hBl hBlt hent hb hO
   go_wp2_with fail
   refine hop.mono ?_
   rintro e w2 ⟨a,v2,rfl,hR2,ha2,hv2,hb2⟩
   have hoo: ∀r,(Value.slice oa on oc).ownBlock=some r→r≠a∧v2.ownBlock≠some r:=fun r hr=>⟨fun e=>by have h1:=HO.out.lt hr;omega,fun e=>by have h1:=HO.out.lt hr;have h2:=hv2 r e;omega⟩
   have HR2:=Lib.hid hR2
   have HO2:=Lib.hid (HO.out.below hb2)
   have HB2:=Lib.hid (HB.out.trans (hb2.mono HB.out.size))
   have HOO:=Lib.hid hoo
   have HA:=Lib.hid (show w.heap.size≤a from Nat.le_trans HB.out.size ha2)
   clear hop hR2 ha2 hv2 hb2 hoo q0
   go_wp2
   go_loopw [4,19] (fun ov kv wi=> ∃k:Nat,k≤5∧kv= .int .i64 k∧RdAt wi a v2 B (172*k) 0∧LOut enEn 4 64 w.heap.size wi ov (l.take (5*i)++C.take k)∧(∀r,ov.ownBlock=some r→r≠a∧v2.ownBlock≠some r)∧Below w.heap.size w wi) (fun _ kv _=>5-(intOf kv).toNat)
   case atStart=>exact ⟨0,Nat.zero_le _,rfl,HR2.out,by simpa using HO2.out,HOO.out,HB2.out⟩
   case round=>
    obtain ⟨k,hk,rfl,hR,hO,hoo,hb⟩:=hrel
    have HB:=Lib.hid hb
    have HO:=Lib.hid hO
    have HOO:=Lib.hid hoo
    by_cases hk5:k<5
    ·have hk5':(k:Int)<5:=by omega
     have hg:=eget_any hR (by rw [HBL.out];omega)
     have hen:=HENT.out k hk5
     obtain ⟨x,hx⟩: ∃x,entAt (unpack B) (172*k)=x:=⟨_,rfl⟩
     rw [hx] at hg hen
     have hag:=aggEn x
     have hone:=oneEn x
     obtain ⟨oa,on,oc,hov⟩:=hO.shape
     subst hov
     have HEN:=Lib.hid hen
     clear hR hO hoo hb hen hx
     go_wp2_with fail
     refine hg.mono ?_
     rintro e w3 ⟨rfl,hR3,hm3⟩
     have hO3:=HO.out.kept hm3.size fun r hr=>hm3.block r (HO.out.lt hr) fun e=>(HOO.out r hr).1 e
     have hB3:Below w.heap.size w w3:=HB.out.trans (hm3.below HB.out.size fun y hy e=>by have h1:=HA.out;have e:y=a:=e;omega)
     obtain ⟨w4,hw4⟩: ∃w4,w3.alloc (.cells (entC x) 64)=w4:=⟨_,rfl⟩
     have hb4:Below w3.heap.size w3 w4:=by rw [←hw4];exact (Below.refl _ _).alloc (Nat.le_refl _) _
     have hX4:w4.heap[w3.heap.size]?=some (.cells (entC x) 64 (0,0)):=by rw [←hw4];exact heap_alloc_at
     have q0:w4.cell? ⟨w3.heap.size,0,none⟩=some (.string x.name):=cell_of hX4 rfl
     have hL4:Lies w4 w3.heap.size 0 (entC x):=lies_of hX4
     have HO4:=Lib.hid (hO3.below hb4)
     have HR4:=Lib.hid (hR3.below hb4)
     have HB4:=Lib.hid (hB3.trans (hb4.mono hB3.size))
     have hsz4:(entC x).size=4:=rfl
     clear hg hR3 hm3 hO3 hB3 hb4 hX4
     go_upto_region 9 with (first
      | ((with_reducible refine wpList_storeA_new hag ?_ hone ?_ ?_ ?_);(rw [hsz4];rfl);rfl;rfl;go_frame)
      | fail)
     simp only [hw4] at*
     clear hw4
     cases hck:C[k]? with
     | none=>
      have hnm:(x.name.toList== [])=true:=by
       rw [HEN.out.2 hck,bs_eq]
       rfl
      have htk:C.take (k+1)=C.take k:=by rw [List.take_add_one,hck];simp
      have HTK:=Lib.hid htk
      clear htk hck
      go_wp2
      go_roundw
      case rel=>exact ⟨k+1,by omega,by go_num,by rw [show 172*(k+1)=172*k+172 by omega];exact HR4.out,by rw [HTK.out];exact HO4.out,HOO.out,HB4.out⟩
      case measure=>simp [intOf];omega
     | some e1=>
      obtain rfl:x=e1:=HEN.out.1 e1 hck
      have hnm:(x.name.toList== [])=false:=name_ne (HCOK.out x (List.mem_of_getElem? hck))
      have htk:l.take (5*i)++C.take (k+1)=(l.take (5*i)++C.take k)++ [x]:=by rw [List.take_add_one,hck];simp
      have HTK:=Lib.hid htk
      have hO4:=HO4.out
      have hol:(l.take (5*i)++C.take k).length≤1000000000:=by rw [List.length_append,List.length_take,List.length_take];have:=HCL.out;omega
      clear htk hck
      go_wp2_with (first
       | ((with_reducible refine wpList_loadA hag hL4 ?_ ?_);rfl;go_frame)
       | ((with_reducible refine wpList_exec rfl (exec_buildSliceA (k:=4) (cells:=entC x) Tryz.underlying56 (by kernel_rfl) (by omega) (by omega) rfl ?_) ?_);rfl;go_frame)
       | ((with_reducible refine wpList_append1Y elEn hO4 x hol ?_ ?_ ?_ ?_);rfl;rfl;rfl;(intro v9 w9 hO9 hm9 hv9;have HO9:=Lib.hid hO9;have HM9:=Lib.hid hm9;have HV9:=Lib.hid hv9;clear hO9 hm9 hv9);go_frame)
       | fail)
      go_roundw
      case rel=>exact ⟨k+1,by omega,by go_num,by rw [show 172*(k+1)=172*k+172 by omega];exact HR4.out.mod HM9.out (fun e=>(HOO.out a e).1 rfl) (fun r hr e=>(HOO.out r e).2 hr),by rw [HTK.out];exact HO9.out,fun r hr=>by
       rcases HV9.out with e|⟨r',e,hr'⟩
       ·exact HOO.out r (e ▸ hr)
       ·rw [e] at hr
        cases hr
        exact ⟨fun e2=>by have h1:=lt_of_block HR4.out.blk;omega,fun e2=>by have h1:=HR4.out.bs.lt e2;omega⟩,HB4.out.trans (HM9.out.below HB4.out.size fun y hy e=>absurd (HO4.out.lo y e) (Nat.not_le.2 hy))⟩
      case measure=>simp [intOf];omega
    ·obtain rfl:k=5:=by omega
     have htk:l.take (5*i)++C.take 5=l.take (5*(i+1)):=by
      rw [List.take_of_length_le HCL.out, ←HC.out,show 5*(i+1)=5*i+5 by omega,List.take_add]
     have hfin:=HO.out
     rw [htk] at hfin
     have HFIN:=Lib.hid hfin
     clear hfin htk hR hO hoo hb
     go_wp2
     go_roundw
     case rel=>exact ⟨i+1,by omega,by go_num,HFIN.out,HB.out⟩
     case measure=>simp [intOf];omega
  ·obtain rfl:i=D:=by omega
   have hall:l.take (5*i)=l:=List.take_of_length_le (by have:=HD5.out;omega)
   rw [hall] at hO
   have hbl:=eblocks_any wo _ l (hO.sl elEn.len) HOK.out HR.out H24.out
   have HO':=Lib.hid hO
   clear hO hall hb HO
   go_wp2_with fail
   refine hbl.mono ?_
   rintro e w3 ⟨v3,rfl,hK3,hb3⟩
   obtain ⟨a3,c3,hv3⟩:=hK3.shape
   subst hv3
   have heq:=eqblocks_any w3 _ _ (dirB l) hK3.r ((H.out.below HB.out).below hb3) (fun b hb=>dirB_sec hb)
   have HB3:=Lib.hid (HB.out.trans (hb3.mono HB.out.size))
   have HO3:=Lib.hid (HO'.out.below hb3)
   clear hbl hK3 hb3
   go_wp2_with fail
   refine heq.mono ?_
   rintro e w4 ⟨rfl,hb4⟩
   have HB4:=Lib.hid (HB3.out.trans (hb4.mono HB3.out.size))
   have HO4:=Lib.hid (HO3.out.below hb4)
   clear heq hb4
   go_wp2
   go_ret2
   exact ⟨_,rfl,HO4.out,HB4.out⟩
theorem efindF_any (w:World) (e:Ent) (s:ByteArray):Calls Tryz.prog 177 #[.agg (entC e), .string s] w fun e' w'=>e'= .returned (.int .i64 (Lib.compareBytes (bsz e.name) (bsz s)))∧Below w.heap.size w w':=by
 obtain ⟨w1,hw1⟩: ∃w1,w.alloc (.cells (entC e) 64)=w1:=⟨_,rfl⟩
 have hb1:Below w.heap.size w w1:=by rw [←hw1];exact (Below.refl _ _).alloc (Nat.le_refl _) _
 have hX:w1.heap[w.heap.size]?=some (.cells (entC e) 64 (0,0)):=by rw [←hw1];exact heap_alloc_at
 have q0:w1.cell? ⟨w.heap.size,0,none⟩=some (.string e.name):=cell_of hX rfl
 have HB1:=Lib.hid hb1
 clear hb1 hX
 go_enter Tryz.func177,Tryz.ntmps177
 go_upto_region 1 with fail
 simp only [hw1] at*
 clear hw1
 go_wp2_with (first
  | (go_at_call 178;refine (compare_any _ _ _).mono ?_;rintro e2 wt ⟨rfl,hw⟩;obtain rfl:=hw.symm;clear hw)
  | fail)
 go_ret
 exact ⟨rfl,HB1.out⟩
structure At (l:List Ent) (s:ByteArray) (r:Nat) (f:Bool):Prop where
 le:r≤l.length
 lt: ∀(k:Nat) (x:Ent),l[k]?=some x→(k<r↔ltN x.name s=true)
 is:f=true↔ ∃x,l[r]?=some x∧x.name=s
set_option maxRecDepth 20000 in
set_option maxHeartbeats 4000000 in
theorem esearch_any (w:World) (v:Value) (l:List Ent) (h:LSl enEn 4 w v l) (hr:Dr.Rise l) (h24:l.length≤1000) (s:ByteArray):Calls Tryz.prog 176 #[v, .string s, .func (.func 177) #[] #[]] w
  fun e w'=> ∃r f,e= .returned (.tuple #[.int .i64 (r:Nat), .bool f])∧At l s r f∧Below w.heap.size w w':=by
 have H:=Lib.hid h
 have HR:=Lib.hid hr
 obtain ⟨ao,cap,rfl, -⟩:=h
 have hlen:(l.length:Int)≤1000:=by omega
 clear hr
 go_enter Tryz.func176,Tryz.ntmps176
 go_wp2
 go_loopw [9,10] (fun iv jv wi=> ∃i j:Nat,i≤j∧j≤l.length∧iv= .int .i64 i∧jv= .int .i64 j∧(∀(k:Nat) (x:Ent),l[k]?=some x→k<i→ltN x.name s=true)∧(∀(k:Nat) (x:Ent),l[k]?=some x→j≤k→ltN x.name s=false)∧Below w.heap.size w wi) (fun iv jv _=>(intOf jv).toNat-(intOf iv).toNat)
 case atStart=>exact ⟨0,l.length,Nat.zero_le _,Nat.le_refl _,rfl,rfl,fun k x _ h=>absurd h (Nat.not_lt_zero _),fun k x hx h=>absurd (List.getElem?_eq_some_iff.1 hx).1 (Nat.not_lt.2 h),Below.refl _ _⟩
 case round=>
  obtain ⟨i,j,hij,hj,rfl,rfl,hlo,hhi,hb⟩:=hrel
  have HLO:=Lib.hid hlo
  have HHI:=Lib.hid hhi
  have HB:=Lib.hid hb
  clear hlo hhi hb
  by_cases hlt:i<j
  ·have hlt':(i:Int)<(j:Int):=by omega
   obtain ⟨m,hm⟩: ∃m,(i+j)/2=m:=⟨_,rfl⟩
   have hmi:i≤m:=by omega
   have hmj:m<j:=by omega
   have hml:m<l.length:=by omega
   have hml':(m:Int)<(l.length:Int):=by omega
   have hsum:((i:Int)+(j:Int))/2=(m:Int):=by omega
   have hi0:(i:Int)≤1000:=by omega
   have hj0:(j:Int)≤1000:=by omega
   obtain ⟨x,hx⟩: ∃x,l[m]?=some x:=⟨_,List.getElem?_eq_getElem hml⟩
   obtain ⟨b,o,cp,hv,hbl,hLx⟩:=sl_ent H.out hx
   obtain rfl:ao=some ⟨b,o,none⟩:=by injection hv
   have hL:=hLx.below' HB.out hbl
   have hag:=aggEn x
   have hcl:=efindF_any wr x s
   obtain ⟨c,hc⟩: ∃c,Lib.compareBytes (bsz x.name) (bsz s)=c:=⟨_,rfl⟩
   rw [hc] at hcl
   have hcl1:c<0↔ltN x.name s=true:=by rw [←hc];exact (cmp_ltL _ _).1
   have HX:=Lib.hid hx
   have HC:=Lib.hid hcl1
   have HM:=Lib.hid hm
   clear hLx hx hc hcl1 hv hm
   go_wp2_with (first
    | ((with_reducible refine wpList_loadA hag hL ?_ ?_);rfl;go_frame)
    | fail)
   refine hcl.mono ?_
   rintro e w2 ⟨rfl,hb2⟩
   have HB2:=Lib.hid (HB.out.trans (hb2.mono HB.out.size))
   clear hcl hb2 hL
   by_cases hc0:c<0
   ·have hl1:=HC.out.1 hc0
    have hnew: ∀(k:Nat) (y:Ent),l[k]?=some y→k<m+1→ltN y.name s=true:=fun k y hy hk=>by
     by_cases hkm:k=m
     ·rw [hkm,HX.out] at hy
      cases hy
      exact hl1
     ·exact ltL_trans _ _ _ (HR.out.get hy HX.out (by omega)) hl1
    have HN:=Lib.hid hnew
    clear hnew hl1
    go_wp2
    go_roundw
    case rel=>exact ⟨m+1,j,by omega,hj,by go_num,rfl,HN.out,HHI.out,HB2.out⟩
    case measure=>simp [intOf];omega
   ·have hl1:ltN x.name s=false:=by
     cases hq:ltN x.name s with
     | false=>rfl
     | true=>exact absurd (HC.out.2 hq) hc0
    have hnew: ∀(k:Nat) (y:Ent),l[k]?=some y→m≤k→ltN y.name s=false:=fun k y hy hk=>by
     by_cases hkm:k=m
     ·rw [hkm,HX.out] at hy
      cases hy
      exact hl1
     ·cases hq:ltN y.name s with
      | false=>rfl
      | true=>
       have:=ltL_trans _ _ _ (HR.out.get HX.out hy (by omega)) hq
       exact absurd hl1 (by rw [show ltN x.name s=true from this];decide)
    have HN:=Lib.hid hnew
    clear hnew hl1
    go_wp2
    go_roundw
    case rel=>exact ⟨i,m,hmi,by omega,rfl,rfl,HLO.out,HN.out,HB2.out⟩
    case measure=>simp [intOf];omega
  ·obtain rfl:i=j:=by omega
   have hAt: ∀f,(f=true↔ ∃x,l[i]?=some x∧x.name=s)→At l s i f:=fun f hf=>⟨hj,fun k x hx=>⟨HLO.out k x hx,fun hl=>by
    apply Classical.byContradiction
    intro hk
    rw [HHI.out k x hx (by omega)] at hl
    cases hl⟩,hf⟩
   have HAT:=Lib.hid hAt
   clear hAt
   by_cases hil:i<l.length
   ·have hil':(i:Int)<(l.length:Int):=by omega
    obtain ⟨x,hx⟩: ∃x,l[i]?=some x:=⟨_,List.getElem?_eq_getElem hil⟩
    obtain ⟨b,o,cp,hv,hbl,hLx⟩:=sl_ent H.out hx
    obtain rfl:ao=some ⟨b,o,none⟩:=by injection hv
    have hL:=hLx.below' HB.out hbl
    have q0:wr.cell? ⟨b,o+i*4,none⟩=some (.string x.name):=hL 0 (by show 0<4;decide)
    have q1:wr.cell? ⟨b,o+i*4+1,none⟩=some (.int .i64 (x.ino:Nat)):=hL 1 (by show 1<4;decide)
    have q2:wr.cell? ⟨b,o+i*4+2,none⟩=some (.int .i64 (x.gen:Nat)):=hL 2 (by show 2<4;decide)
    have q3:wr.cell? ⟨b,o+i*4+3,none⟩=some (.int .i64 (x.kind:Nat)):=hL 3 (by show 3<4;decide)
    have hcl:=efindF_any wr x s
    obtain ⟨c,hc⟩: ∃c,Lib.compareBytes (bsz x.name) (bsz s)=c:=⟨_,rfl⟩
    rw [hc] at hcl
    have hcl1:c=0↔x.name=s:=by
     rw [←hc,(cmp_ltL _ _).2]
     exact ⟨bsz_ext,fun e=>by rw [e]⟩
    obtain ⟨f,hf⟩: ∃f,(c==0)=f:=⟨_,rfl⟩
    have hff:f=true↔ ∃y,l[i]?=some y∧y.name=s:=by
     rw [←hf,beq_iff_eq,hcl1,hx]
     constructor
     ·exact fun h=>⟨x,rfl,h⟩
     ·rintro ⟨y,hy,h⟩
      cases hy
      exact h
    have HA:=Lib.hid (HAT.out f hff)
    clear hLx hx hc hcl1 hv hff hL
    go_wp2_with fail
    refine hcl.mono ?_
    rintro e w2 ⟨rfl,hb2⟩
    have HB2:=Lib.hid (HB.out.trans (hb2.mono HB.out.size))
    clear hcl hb2 q0 q1 q2 q3
    go_wp2
    go_ret2
    exact ⟨i,f,rfl,HA.out,HB2.out⟩
   ·have hil':¬ (i:Int)<(l.length:Int):=by omega
    have HA:=Lib.hid (HAT.out false ⟨(fun h=>by cases h),(fun h=>by obtain ⟨x,hx,_⟩:=h;exact absurd (List.getElem?_eq_some_iff.1 hx).1 hil)⟩)
    go_wp2
    go_ret2
    first
     | exact ⟨i, .inl ⟨rfl,HA.out,HB.out⟩⟩
     | exact ⟨i, .inr ⟨rfl,HA.out,HB.out⟩⟩
     | exact .inl ⟨i,rfl,HA.out,HB.out⟩
theorem efind_any (w:World) (v:Value) (l:List Ent) (h:LSl enEn 4 w v l) (hr:Dr.Rise l) (h24:l.length≤1000) (s:ByteArray):Calls Tryz.prog 132 #[v, .string s] w
  fun e w'=> ∃r f,e= .returned (.tuple #[.int .i64 (r:Nat), .bool f])∧At l s r f∧Below w.heap.size w w':=by
 have hse:=esearch_any w v l h hr h24 s
 obtain ⟨ao,cap,rfl, -⟩:=h
 go_enter Tryz.func132,Tryz.ntmps132
 go_wp2_with fail
 refine hse.mono ?_
 rintro e w2 ⟨r,f,rfl,hA,hb⟩
 have HA:=Lib.hid hA
 have HB:=Lib.hid hb
 clear hse hA hb
 go_wp2
 go_ret2
 exact ⟨r,f,rfl,HA.out,HB.out⟩
end Go.Proofs.YtjdbbnhnbdocbaaGreat
