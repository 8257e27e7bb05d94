import Derived.Test.YtldimgchpgoggaaGreatMgKpt25
import Derived.Test.YtldimgchpgoggaaGreatMgKpt5
import Derived.Test.YtldimgchpgoggaaGreatMgKpt6
import Derived.Test.YtldimgchpgoggaaGreatMgKpt7
import Derived.Laws.BytesArg
namespace Go.Tn.Slo
open Go.RowKit Go.Tn.Bt
def wideN (n:Int):Nat:=(n %18446744073709551616).toNat
theorem wideN_lt (n:Int):wideN n<2 ^ 64:=by
 unfold wideN
 omega
def stX (x:Slt):Option (List Bool):=(putX (putX (putX (putX (putX (putX (some []) x.used.toNat 1) x.dirty.toNat 1) (wideN x.blk.1) 6) (wideN x.blk.2.1) 31) (wideN x.blk.2.2) 3) x.ver 40).map (· ++txBits x.data)
def StLe (st:Option (List Bool)) (m:Nat):Prop:= ∀L,st=some L→L.length≤m
theorem StLe.put {st:Option (List Bool)} {m:Nat} (h:StLe st m) (x n:Nat):StLe (putX st x n) (m+n):=fun L hL=>by
 cases st with
 |none=>cases hL
 |some L0=>
   have hL:(if x<2 ^ n then some (L0++bitsN x n) else none)=some L:=hL
   split at hL
   · cases hL
     have:=h L0 rfl
     rw [List.length_append,bitsN_len]
     omega
   · cases hL
theorem putX_some {L:List Bool} {x n:Nat} (h:x<2 ^ n):putX (some L) x n=some (L++bitsN x n):=by
 show (if x<2 ^ n then _ else _)=_
 rw [if_pos h]
theorem putX_wide {st:Option (List Bool)} {x n:Nat} (h:¬ x<2 ^ n):putX st x n=none:=by
 cases st with
 |none=>rfl
 |some L=>
   show (if x<2 ^ n then _ else _)=_
   rw [if_neg h]
theorem wideN_of {n:Int} {k:Nat} (h0: -9223372036854775808≤n∧n<9223372036854775808) (hk:k≤9223372036854775808):wideN n<k↔0≤n∧n<(k:Int):=by
 unfold wideN
 omega
theorem wideN_nat {n:Int} (h:0≤n) (h2:n<9223372036854775808):wideN n=n.toNat:=by
 unfold wideN
 omega
theorem stX_fits {x:Slt} (hu:x.used=true) (hi:1≤x.blk.1∧x.blk.1≤40) (hs:x.data.size≤64) (hg: -9223372036854775808≤x.blk.2.1∧x.blk.2.1<9223372036854775808) (ha: -9223372036854775808≤x.blk.2.2∧x.blk.2.2<9223372036854775808):
   stX x=if x.fits then some x.bits else none:=by
 unfold stX
 have h1:x.used.toNat<2 ^ 1:=by cases x.used<;>decide
 have h2:x.dirty.toNat<2 ^ 1:=by cases x.dirty<;>decide
 have h3:wideN x.blk.1<2 ^ 6:=(wideN_of (by omega) (by decide)).2 (by omega)
 rw [putX_some h1,putX_some h2,putX_some h3]
 by_cases h4:wideN x.blk.2.1<2 ^ 31
 · have h4':=(wideN_of hg (by decide)).1 h4
   rw [putX_some h4]
   by_cases h5:wideN x.blk.2.2<2 ^ 3
   · have h5':=(wideN_of ha (by decide)).1 h5
     rw [putX_some h5]
     by_cases h6:x.ver<2 ^ 40
     · have hf:x.fits:=⟨hu,hi,by omega,by omega,by omega,hs⟩
       rw [putX_some h6,if_pos hf]
       unfold Slt.bits
       rw [if_pos hu,hu,wideN_nat (by omega) (by omega),wideN_nat (by omega) (by omega),wideN_nat (by omega) (by omega)]
       simp [List.append_assoc]
     · rw [putX_wide h6,if_neg (fun hf=>h6 (by have:=hf.ver;omega))]
       rfl
   · rw [putX_wide h5,if_neg (fun hf=>h5 ((wideN_of ha (by decide)).2 (by have:=hf.at_;omega)))]
     rfl
 · rw [putX_wide h4,if_neg (fun hf=>h4 ((wideN_of hg (by decide)).2 (by have:=hf.gen;omega)))]
   rfl
end Go.Tn.Slo
namespace Go.Proofs.YtldimgchpgoggaaGreat
open Go.RowKit Go.Tn Go.Tn.Bt Go.Tn.Ino Go.Tn.Slo
theorem zero8:(Tryz.prog.info? 5).map (fun i=>i.zero.map (·.cells))=some (some #[.int .u8 0]):=by kernel_rfl
theorem en8_0:en8 0= [.int .u8 0]:=rfl
abbrev enSl:Slt→List Value:=fun x=> [.bool x.used, .int .i64 x.blk.1, .int .i64 x.blk.2.1, .int .i64 x.blk.2.2, .int .u64 (x.ver:Nat), .bool x.dirty, .string x.data]
abbrev slC (x:Slt):Array Value:= #[.bool x.used, .int .i64 x.blk.1, .int .i64 x.blk.2.1, .int .i64 x.blk.2.2, .int .u64 (x.ver:Nat), .bool x.dirty, .string x.data]
theorem aggSl (x:Slt):AggT Tryz.prog 42 (slC x).size:=⟨⟨_,Tryz.underlying42,rfl⟩,by kernel_rfl⟩
theorem oneSl (x:Slt):(slC x).all (·.oneCell')=true:=by simp [Value.oneCell']
set_option maxRecDepth 20000 in
theorem built_no:Tryz.prog.built 42 []=some (slC Slt.no):=by kernel_rfl
def Slt.w64 (x:Slt):Prop:=(-9223372036854775808≤x.blk.1∧x.blk.1<9223372036854775808)∧(-9223372036854775808≤x.blk.2.1∧x.blk.2.1<9223372036854775808)∧(-9223372036854775808≤x.blk.2.2∧x.blk.2.2<9223372036854775808)∧x.ver<2 ^ 64
theorem Slt.fits.w64 {x:Slt} (h:x.fits):Slt.w64 x:=by
 have h1:=h.ino
 have h2:=h.gen
 have h3:=h.at_
 have h4:=h.ver
 exact ⟨by omega,by omega,by omega,by omega⟩
theorem eqSlt_b (x y:Slt):decide (x=y)=(x.used==y.used&&(x.blk.1==y.blk.1&&x.blk.2.1==y.blk.2.1&&x.blk.2.2==y.blk.2.2&&(decide (x.ver=y.ver)&&(x.dirty==y.dirty&&x.data.toList==y.data.toList)))):=by
 rw [Bool.eq_iff_iff]
 obtain ⟨u,⟨i,g,a⟩,v,d,s⟩:=x
 obtain ⟨u',⟨i',g',a'⟩,v',d',s'⟩:=y
 simp only [decide_eq_true_eq,Slt.mk.injEq,Prod.mk.injEq,Bool.and_eq_true,beq_iff_eq]
 have hs:s=s'↔s.toList=s'.toList:=by
   refine ⟨fun h=>by rw [h],fun h=> ?_⟩
   rw [ByteArray.toList_eq,ByteArray.toList_eq] at h
   obtain ⟨⟨l⟩⟩:=s
   obtain ⟨⟨l'⟩⟩:=s'
   simp at h
   rw [h]
 rw [hs]
 constructor
 · rintro ⟨h1,⟨h2,h3,h4⟩,h5,h6,h7⟩
   exact ⟨h1,⟨⟨h2,h3⟩,h4⟩,h5,h6,h7⟩
 · rintro ⟨h1,⟨⟨h2,h3⟩,h4⟩,h5,h6,h7⟩
   exact ⟨h1,⟨h2,h3,h4⟩,h5,h6,h7⟩
set_option maxRecDepth 20000 in
theorem eqSlt (w:World) (x y:Slt):(Op.equalIn 10000 42 (.agg (slC x)) (.agg (slC y))).run Tryz.prog w= .ok (decide (x=y)) w:=by
 rw [run_equalIn_agg w 9999 42 _ _ (by simp [Program.fieldsOf,Tryz.underlying42]) (by kernel_rfl)]
 rw [eqSlt_b]
 obtain ⟨u,⟨i,g,a⟩,v,d,s⟩:=x
 obtain ⟨u',⟨i',g',a'⟩,v',d',s'⟩:=y
 simp only
 simp [go_sem,Program.fieldsOf,Tryz.underlying42,Tryz.underlying35,Tryz.underlying33,Op.eqFields,part,isAgg]
 have hv:((v:Int)=(v':Int))↔v=v':=by omega
 simp only [hv]
 by_cases h1:u=u'
 · by_cases h2:i=i'
   · by_cases h3:g=g'
     · by_cases h4:a=a'
       · by_cases h5:v=v'
         · by_cases h6:d=d'
           · by_cases h7:s.toList=s'.toList
             · simp [h1,h2,h3,h4,h5,h6,h7]
             · simp [h1,h2,h3,h4,h5,h6,h7]
           · simp [h1,h2,h3,h4,h5,h6]
         · simp [h1,h2,h3,h4,h5]
       · simp [h1,h2,h3,h4]
     · simp [h1,h2,h3]
   · simp [h1,h2]
 · simp [h1]
theorem sbit_any (w:World) (b:Bool):Calls Tryz.prog 93 #[.bool b] w fun e w'=>e= .returned (.int .u64 (b.toNat:Nat))∧w'=w:=by
 cases b
 · go_enter Tryz.func93,Tryz.ntmps93
   go_wp2
   go_ret
   exact ⟨rfl,rfl⟩
 · go_enter Tryz.func93,Tryz.ntmps93
   go_wp2
   go_ret
   exact ⟨rfl,rfl⟩
theorem swide_any (w:World) (n:Int) (h: -9223372036854775808≤n∧n<9223372036854775808):Calls Tryz.prog 94 #[.int .i64 n] w fun e w'=>e= .returned (.int .u64 (wideN n:Nat))∧w'=w:=by
 have hw:IntKind.u64.wrap n=((wideN n:Nat):Int):=by
   rw [IntKind.wrap_u64]
   unfold wideN
   omega
 clear h
 generalize wideN n=q at*
 go_enter Tryz.func94,Tryz.ntmps94
 go_wp2
 go_ret
 exact ⟨rfl,rfl⟩
set_option maxRecDepth 20000 in
theorem sfree_any (w:World) (x:Slt):Calls Tryz.prog 28 #[.agg (slC x)] w fun e w'=>e= .returned (.bool (decide (x=Slt.no)))∧Below w.heap.size w w':=by
 have hL:Lies (w.alloc (.cells (slC x) 42)) w.heap.size 0 (slC x):=lies_of heap_alloc_at
 have hb:Below w.heap.size w (w.alloc (.cells (slC x) 42)):=(Below.refl _ _).alloc (Nat.le_refl _) _
 have hag:=aggSl x
 have hbn:=built_no
 have hgt:Tryz.prog.eqGuardType Tryz.prog.depth 42=false:=by kernel_rfl
 have heq:=fun w=>eqSlt w x Slt.no
 generalize decide (x=Slt.no)=q at*
 go_enter Tryz.func28,Tryz.ntmps28
 go_wp2_with (first
   |((with_reducible refine wpList_loadA hag hL ?_ ?_);rfl;go_frame)
   |((with_reducible refine wpList_exec rfl (exec_buildA (vals:= []) ?_ hbn) ?_);rfl;go_frame)
   |((with_reducible refine wpList_exec rfl (exec_eqlS hgt heq ?_ ?_ _) ?_);rfl;rfl;go_frame)
   |fail)
 go_ret
 exact ⟨rfl,hb⟩
def SEnc (w:World) (x:Slt) (e:Ending) (w':World):Prop:=(if x.is then ∃v,e= .returned (.tuple #[v, .int .i64 0])∧LOut en8 1 5 w.heap.size w' v x.sec else e= .returned (.tuple #[.slice none 0 0, .int .i64 2]))∧Below w.heap.size w w'
theorem aggFi (i g:Int):AggT Tryz.prog 33 (#[.int .i64 i, .int .i64 g]:Array Value).size:=⟨⟨_,Tryz.underlying33,rfl⟩,by kernel_rfl⟩
theorem oneFi (i g:Int):(#[.int .i64 i, .int .i64 g]:Array Value).all (·.oneCell')=true:=by simp [Value.oneCell']
theorem zero_en8:(Tryz.prog.info? 5).map (fun i=>i.zero.map (·.cells))=some (some (en8 0).toArray):=by kernel_rfl
set_option maxRecDepth 20000 in
set_option maxHeartbeats 4000000 in
theorem senc_free (w:World):Calls Tryz.prog 62 #[.agg (slC Slt.no)] w fun e w'=> ∃v,e= .returned (.tuple #[v, .int .i64 0])∧LOut en8 1 5 w.heap.size w' v Slt.no.sec∧Below w.heap.size w w':=by
 have hL:Lies (w.alloc (.cells (slC Slt.no) 42)) w.heap.size 0 (slC Slt.no):=lies_of heap_alloc_at
 have hb:Below w.heap.size w (w.alloc (.cells (slC Slt.no) 42)):=(Below.refl _ _).alloc (Nat.le_refl _) _
 have hag:=aggSl Slt.no
 have hfr:=sfree_any (w.alloc (.cells (slC Slt.no) 42)) Slt.no
 rw [decide_eq_true (rfl:Slt.no=Slt.no)] at hfr
 have HB:=Lib.hid hb
 clear hb
 generalize hw1:w.alloc (.cells (slC Slt.no) 42)=w1 at hL hfr HB
 go_enter Tryz.func62,Tryz.ntmps62
 go_upto_region 1 with fail
 clear hw1
 go_wp2_with (first
   |((with_reducible refine wpList_loadA hag hL ?_ ?_);rfl;go_frame)
   |fail)
 refine hfr.mono ?_
 rintro e w2 ⟨rfl,hb2⟩
 obtain ⟨w3,hmk,hO,hb3, -⟩:=exec_makeA el8 0 zero_en8 128 (by decide) w2
 rw [show ((128:Nat):Int)=128 from rfl] at hmk
 have HB2:=Lib.hid (HB.out.trans (hb2.mono HB.out.size))
 have HO:=Lib.hid hO
 have HB3:=Lib.hid hb3
 clear hfr hb2 hO hb3 hL
 go_wp2_with (first
   |((with_reducible refine wpList_exec rfl (hmk _ _ _ _ _ _ _ _ ?_ ?_) ?_);rfl;rfl;go_frame)
   |fail)
 go_ret2
 refine ⟨_,rfl,?_,HB2.out.trans (HB3.out.mono HB2.out.size)⟩
 rw [no_sec]
 exact HO.out.mono HB2.out.size
theorem srefused {x:Slt} (h:x.is) (hn:x≠Slt.no):x.used=true∧1≤x.blk.1∧x.blk.1≤40∧x.data.size≤64:=by
 rcases h with h|h
 · exact absurd h hn
 · exact ⟨h.used,h.ino.1,h.ino.2,h.size⟩
set_option maxRecDepth 20000 in
set_option maxHeartbeats 8000000 in
theorem senc_any (w:World) (x:Slt) (h64:Slt.w64 x) (hmx:x.data.size≤maxLen):Calls Tryz.prog 62 #[.agg (slC x)] w fun e w'=>SEnc w x e w':=by
 by_cases hno:x=Slt.no
 · subst hno
   refine (senc_free w).mono ?_
   rintro e w' ⟨v,rfl,hO,hb⟩
   unfold SEnc
   rw [if_pos (.inl rfl)]
   exact ⟨⟨v,rfl,hO⟩,hb⟩
 unfold maxLen at hmx
 have hmx':(x.data.size:Int)≤9223372036854775807:=by omega
 have hk1:(w.alloc (.cells (slC x) 42)).heap[w.heap.size]?=some (.cells (slC x) 42 (0,0)):=heap_alloc_at
 have hb:Below w.heap.size w (w.alloc (.cells (slC x) 42)):=(Below.refl _ _).alloc (Nat.le_refl _) _
 have hag:=aggSl x
 have hfr:=sfree_any (w.alloc (.cells (slC x) 42)) x
 rw [decide_eq_false hno] at hfr
 have HB:=Lib.hid hb
 have HNO:=Lib.hid hno
 have HR:=Lib.hid h64
 clear hb hno h64
 generalize hw1:w.alloc (.cells (slC x) 42)=w1 at hk1 hfr HB
 generalize hsb:w.heap.size=sb at hk1
 have hL:=lies_of hk1
 have HK1:=Lib.hid hk1
 have HSB:=Lib.hid hsb
 clear hk1 hsb
 go_enter Tryz.func62,Tryz.ntmps62
 go_upto_region 1 with fail
 rw [HSB.out]
 clear hw1
 go_wp2_with (first
   |((with_reducible refine wpList_loadA hag hL ?_ ?_);rfl;go_frame)
   |fail)
 refine hfr.mono ?_
 rintro e w2 ⟨rfl,hb2⟩
 have hk2:=(hb2.block sb (lt_of_block HK1.out)).trans HK1.out
 have hLF:Lies w2 sb 1 #[.int .i64 x.blk.1, .int .i64 x.blk.2.1]:=fun j hj=>by
   match j,hj with
   |0,_=>exact cell_of hk2 rfl
   |1,_=>exact cell_of hk2 rfl
 have hkf:(w2.alloc (.cells #[.int .i64 x.blk.1, .int .i64 x.blk.2.1] 33)).heap[w2.heap.size]?=some (.cells #[.int .i64 x.blk.1, .int .i64 x.blk.2.1] 33 (0,0)):=heap_alloc_at
 have hbf:Below w2.heap.size w2 (w2.alloc (.cells #[.int .i64 x.blk.1, .int .i64 x.blk.2.1] 33)):=(Below.refl _ _).alloc (Nat.le_refl _) _
 have hkx:=(hbf.block sb (lt_of_block hk2)).trans hk2
 have haf:=aggFi x.blk.1 x.blk.2.1
 have hof:=oneFi x.blk.1 x.blk.2.1
 have HBF:=Lib.hid (HB.out.trans ((hb2.mono HB.out.size).trans (hbf.mono (by have:=HB.out.size;have:=hb2.size;omega))))
 have HKF:=Lib.hid hkf
 have HKX:=Lib.hid hkx
 clear hb2 hk2 hkf hbf hkx hL hfr HK1
 go_upto_region 4 with (first
   |((with_reducible refine wpList_loadA haf hLF ?_ ?_);rfl;go_frame)
   |((with_reducible refine wpList_storeA_new haf ?_ hof ?_ ?_ ?_);rfl;rfl;rfl;go_frame)
   |fail)
 generalize w2.alloc (.cells #[.int .i64 x.blk.1, .int .i64 x.blk.2.1] 33)=wf at*
 generalize w2.heap.size=fb at*
 have c0:wf.cell? ⟨sb,0,none⟩=some (.bool x.used):=cell_of HKX.out rfl
 have c3:wf.cell? ⟨sb,3,none⟩=some (.int .i64 x.blk.2.2):=cell_of HKX.out rfl
 have c4:wf.cell? ⟨sb,4,none⟩=some (.int .u64 (x.ver:Nat)):=cell_of HKX.out rfl
 have c5:wf.cell? ⟨sb,5,none⟩=some (.bool x.dirty):=cell_of HKX.out rfl
 have c6:wf.cell? ⟨sb,6,none⟩=some (.string x.data):=cell_of HKX.out rfl
 have cf0:wf.cell? ⟨fb,0,none⟩=some (.int .i64 x.blk.1):=cell_of HKF.out rfl
 have cf1:wf.cell? ⟨fb,1,none⟩=some (.int .i64 x.blk.2.1):=cell_of HKF.out rfl
 have hsb:=lt_of_block HKX.out
 have hfb:=lt_of_block HKF.out
 clear hLF
 by_cases hok:x.used=true∧1≤x.blk.1∧x.blk.1≤40∧x.data.size≤64
 case neg=>
   have hnis:¬ x.is:=fun h=>hok (srefused h HNO.out)
   have HP:Hid (SEnc w x (.returned (.tuple #[.slice none 0 0, .int .i64 2])) wf):=Lib.hid (by
     unfold SEnc
     rw [if_neg hnis]
     exact ⟨rfl,HBF.out⟩)
   clear hnis
   by_cases hu:x.used=true
   · rw [hu] at c0
     by_cases hi1:1≤x.blk.1
     · by_cases hi2:x.blk.1≤40
       · have hs:decide ((64:Int)<(x.data.size:Int))=true:=decide_eq_true (by
           have:¬ x.data.size≤64:=fun h=>hok ⟨hu,hi1,hi2,h⟩
           omega)
         clear hok hu
         go_wp2
         go_ret2
         exact HP.out
       · have hi2':40<x.blk.1:=by omega
         clear hok hu hi2
         go_wp2
         go_ret2
         exact HP.out
     · have hi1':x.blk.1<1:=by omega
       clear hok hu hi1
       go_wp2
       go_ret2
       exact HP.out
   · have hu':x.used=false:=by simpa using hu
     rw [hu'] at c0
     clear hok hu
     go_wp2
     go_ret2
     exact HP.out
 obtain ⟨hu,hi1,hi2,hs64⟩:=hok
 have hsd:decide ((64:Int)<(x.data.size:Int))=false:=decide_eq_false (by omega)
 have HSZ:Hid (x.data.size<65536):=Lib.hid (by omega)
 have HSZ64:=Lib.hid hs64
 have HST:=Lib.hid (stX_fits hu ⟨hi1,hi2⟩ hs64 HR.out.2.1 HR.out.2.2.1)
 have HU:=Lib.hid hu
 rw [hu] at c0
 clear hs64
 go_upto_region 6 with fail
 rw [←HU.out] at c0
 clear hsd hu hi1 hi2
 have hS:wf.drew.cell? ⟨sb,0,none⟩=some (.bool x.used)∧wf.drew.cell? ⟨sb,5,none⟩=some (.bool x.dirty)∧wf.drew.cell? ⟨fb,0,none⟩=some (.int .i64 x.blk.1)∧wf.drew.cell? ⟨fb,1,none⟩=some (.int .i64 x.blk.2.1)∧wf.drew.cell? ⟨sb,3,none⟩=some (.int .i64 x.blk.2.2)∧wf.drew.cell? ⟨sb,4,none⟩=some (.int .u64 (x.ver:Nat))∧wf.drew.cell? ⟨sb,6,none⟩=some (.string x.data):=⟨c0,c5,cf0,cf1,c3,c4,c6⟩
 clear c0 c5 cf0 cf1 c3 c4 c6
 refine wp_region_x (fun w'=>w'.cell? ⟨sb,0,none⟩=some (.bool x.used)∧w'.cell? ⟨sb,5,none⟩=some (.bool x.dirty)∧w'.cell? ⟨fb,0,none⟩=some (.int .i64 x.blk.1)∧w'.cell? ⟨fb,1,none⟩=some (.int .i64 x.blk.2.1)∧w'.cell? ⟨sb,3,none⟩=some (.int .i64 x.blk.2.2)∧w'.cell? ⟨sb,4,none⟩=some (.int .u64 (x.ver:Nat))∧w'.cell? ⟨sb,6,none⟩=some (.string x.data)) [(1,1),(2,0),(5,1),(6,0),(9,1),(10,0),(13,1),(14,0),(17,1),(18,1),(19,0),(22,1),(23,0),(25,1),(26,0),(0,2),(3,2),(4,2),(7,2),(8,2),(11,2),(12,2),(15,2),(16,2),(20,2),(21,2),(24,2),(27,2),(28,1)] (by kernel_rfl) (by kernel_rfl) (by intro d v c a w h;cases d<;>exact h) ?_
 iterate 1 (refine x_take rfl (fun K hK=> ?_);go_simp;refine hK _ ?_;clear hK K)
 refine x_read rfl hS (fun w' h=>exec_load1 ⟨⟨_,Tryz.underlying4,rfl⟩⟩ rfl h.1) ?_
 iterate 1 (refine x_take rfl (fun K hK=> ?_);go_simp;refine hK _ ?_;clear hK K)
 refine x_read rfl hS (fun w' h=>exec_load1 ⟨⟨_,Tryz.underlying4,rfl⟩⟩ rfl h.2.1) ?_
 iterate 1 (refine x_take rfl (fun K hK=> ?_);go_simp;refine hK _ ?_;clear hK K)
 refine x_read rfl hS (fun w' h=>exec_load1 ⟨⟨_,Tryz.underlying3,rfl⟩⟩ rfl h.2.2.1) ?_
 iterate 1 (refine x_take rfl (fun K hK=> ?_);go_simp;refine hK _ ?_;clear hK K)
 refine x_read rfl hS (fun w' h=>exec_load1 ⟨⟨_,Tryz.underlying3,rfl⟩⟩ rfl h.2.2.2.1) ?_
 iterate 2 (refine x_take rfl (fun K hK=> ?_);go_simp;refine hK _ ?_;clear hK K)
 refine x_read rfl hS (fun w' h=>exec_load1 ⟨⟨_,Tryz.underlying3,rfl⟩⟩ rfl h.2.2.2.2.1) ?_
 iterate 1 (refine x_take rfl (fun K hK=> ?_);go_simp;refine hK _ ?_;clear hK K)
 refine x_read rfl hS (fun w' h=>exec_load1 ⟨⟨_,Tryz.underlying36,rfl⟩⟩ rfl h.2.2.2.2.2.1) ?_
 iterate 1 (refine x_take rfl (fun K hK=> ?_);go_simp;refine hK _ ?_;clear hK K)
 refine x_read rfl hS (fun w' h=>exec_load1 ⟨⟨_,Tryz.underlying9,rfl⟩⟩ rfl h.2.2.2.2.2.2) ?_
 have hcel: ∀(wa wb:World),Below wf.heap.size wa wb→(wa.cell? ⟨sb,0,none⟩=some (.bool x.used)∧wa.cell? ⟨sb,5,none⟩=some (.bool x.dirty)∧wa.cell? ⟨fb,0,none⟩=some (.int .i64 x.blk.1)∧wa.cell? ⟨fb,1,none⟩=some (.int .i64 x.blk.2.1)∧wa.cell? ⟨sb,3,none⟩=some (.int .i64 x.blk.2.2)∧wa.cell? ⟨sb,4,none⟩=some (.int .u64 (x.ver:Nat))∧wa.cell? ⟨sb,6,none⟩=some (.string x.data))→(wb.cell? ⟨sb,0,none⟩=some (.bool x.used)∧wb.cell? ⟨sb,5,none⟩=some (.bool x.dirty)∧wb.cell? ⟨fb,0,none⟩=some (.int .i64 x.blk.1)∧wb.cell? ⟨fb,1,none⟩=some (.int .i64 x.blk.2.1)∧wb.cell? ⟨sb,3,none⟩=some (.int .i64 x.blk.2.2)∧wb.cell? ⟨sb,4,none⟩=some (.int .u64 (x.ver:Nat))∧wb.cell? ⟨sb,6,none⟩=some (.string x.data)):=fun wa wb hb h=>
   ⟨(hb.cell (p:=⟨sb,_,none⟩) hsb).trans h.1,(hb.cell (p:=⟨sb,_,none⟩) hsb).trans h.2.1,(hb.cell (p:=⟨fb,_,none⟩) hfb).trans h.2.2.1,(hb.cell (p:=⟨fb,_,none⟩) hfb).trans h.2.2.2.1,(hb.cell (p:=⟨sb,_,none⟩) hsb).trans h.2.2.2.2.1,(hb.cell (p:=⟨sb,_,none⟩) hsb).trans h.2.2.2.2.2.1,(hb.cell (p:=⟨sb,_,none⟩) hsb).trans h.2.2.2.2.2.2⟩
 have HCEL:=Lib.hid hcel
 clear hcel
 have hB0:Below wf.heap.size wf wf.drew:=(Below.refl _ _).drew
 refine x_show' rfl (fun K hK=> ?_)
 go_simp
 refine (bNew_any _).mono ?_
 rintro e w3 ⟨rfl,hW3,hb3⟩
 generalize ha:wf.drew.heap.size=a at*
 have ha2:wf.heap.size=a:=ha
 have hX3:WrX w3 a (some []):=⟨_,hW3⟩
 have hl3:StLe (some []) 0:=fun L e=>by cases e;exact Nat.le_refl 0
 have hS3:=HCEL.out _ _ (show Below wf.heap.size wf.drew w3 by rw [ha2];exact hb3) hS
 have hB3:=hB0.trans (show Below wf.heap.size wf.drew w3 by rw [ha2];exact hb3)
 refine hK _ _ hS3 ?_
 clear hK K hS hW3 hb3 hB0
 refine x_show' rfl (fun K hK=> ?_)
 go_simp
 refine (sbit_any _ x.used).mono ?_
 rintro e wt ⟨rfl,hw⟩
 obtain rfl:=hw.symm
 refine hK _ _ hS3 ?_
 clear hK K hw
 refine x_show' rfl (fun K hK=> ?_)
 go_simp
 have hl4:=StLe.put hl3 (x.used.toNat) 1
 refine (put_x hX3 (x.used.toNat) 1 (fun L e=>by have:=hl3 L e;omega) (by decide) (by cases x.used<;>decide)).mono ?_
 rintro e w4 ⟨rfl,hX4,hb4⟩
 have hS4:=HCEL.out _ _ (show Below wf.heap.size w3 w4 by rw [ha2];exact hb4) hS3
 have hB4:=hB3.trans (show Below wf.heap.size w3 w4 by rw [ha2];exact hb4)
 refine hK _ _ hS4 ?_
 clear hK K hX3 hb4 hS3 hB3
 refine x_show' rfl (fun K hK=> ?_)
 go_simp
 refine (sbit_any _ x.dirty).mono ?_
 rintro e wt ⟨rfl,hw⟩
 obtain rfl:=hw.symm
 refine hK _ _ hS4 ?_
 clear hK K hw
 refine x_show' rfl (fun K hK=> ?_)
 go_simp
 have hl5:=StLe.put hl4 (x.dirty.toNat) 1
 refine (put_x hX4 (x.dirty.toNat) 1 (fun L e=>by have:=hl4 L e;omega) (by decide) (by cases x.dirty<;>decide)).mono ?_
 rintro e w5 ⟨rfl,hX5,hb5⟩
 have hS5:=HCEL.out _ _ (show Below wf.heap.size w4 w5 by rw [ha2];exact hb5) hS4
 have hB5:=hB4.trans (show Below wf.heap.size w4 w5 by rw [ha2];exact hb5)
 refine hK _ _ hS5 ?_
 clear hK K hX4 hb5 hS4 hB4
 refine x_show' rfl (fun K hK=> ?_)
 go_simp
 refine (swide_any _ x.blk.1 (by exact HR.out.1)).mono ?_
 rintro e wt ⟨rfl,hw⟩
 obtain rfl:=hw.symm
 refine hK _ _ hS5 ?_
 clear hK K hw
 refine x_show' rfl (fun K hK=> ?_)
 go_simp
 have hl6:=StLe.put hl5 (wideN x.blk.1) 6
 refine (put_x hX5 (wideN x.blk.1) 6 (fun L e=>by have:=hl5 L e;omega) (by decide) (wideN_lt _)).mono ?_
 rintro e w6 ⟨rfl,hX6,hb6⟩
 have hS6:=HCEL.out _ _ (show Below wf.heap.size w5 w6 by rw [ha2];exact hb6) hS5
 have hB6:=hB5.trans (show Below wf.heap.size w5 w6 by rw [ha2];exact hb6)
 refine hK _ _ hS6 ?_
 clear hK K hX5 hb6 hS5 hB5
 refine x_show' rfl (fun K hK=> ?_)
 go_simp
 refine (swide_any _ x.blk.2.1 (by exact HR.out.2.1)).mono ?_
 rintro e wt ⟨rfl,hw⟩
 obtain rfl:=hw.symm
 refine hK _ _ hS6 ?_
 clear hK K hw
 refine x_show' rfl (fun K hK=> ?_)
 go_simp
 have hl7:=StLe.put hl6 (wideN x.blk.2.1) 31
 refine (put_x hX6 (wideN x.blk.2.1) 31 (fun L e=>by have:=hl6 L e;omega) (by decide) (wideN_lt _)).mono ?_
 rintro e w7 ⟨rfl,hX7,hb7⟩
 have hS7:=HCEL.out _ _ (show Below wf.heap.size w6 w7 by rw [ha2];exact hb7) hS6
 have hB7:=hB6.trans (show Below wf.heap.size w6 w7 by rw [ha2];exact hb7)
 refine hK _ _ hS7 ?_
 clear hK K hX6 hb7 hS6 hB6
 refine x_show' rfl (fun K hK=> ?_)
 go_simp
 refine (swide_any _ x.blk.2.2 (by exact HR.out.2.2.1)).mono ?_
 rintro e wt ⟨rfl,hw⟩
 obtain rfl:=hw.symm
 refine hK _ _ hS7 ?_
 clear hK K hw
 refine x_show' rfl (fun K hK=> ?_)
 go_simp
 have hl8:=StLe.put hl7 (wideN x.blk.2.2) 3
 refine (put_x hX7 (wideN x.blk.2.2) 3 (fun L e=>by have:=hl7 L e;omega) (by decide) (wideN_lt _)).mono ?_
 rintro e w8 ⟨rfl,hX8,hb8⟩
 have hS8:=HCEL.out _ _ (show Below wf.heap.size w7 w8 by rw [ha2];exact hb8) hS7
 have hB8:=hB7.trans (show Below wf.heap.size w7 w8 by rw [ha2];exact hb8)
 refine hK _ _ hS8 ?_
 clear hK K hX7 hb8 hS7 hB7
 refine x_show' rfl (fun K hK=> ?_)
 go_simp
 have hl9:=StLe.put hl8 (x.ver) 40
 refine (put_x hX8 (x.ver) 40 (fun L e=>by have:=hl8 L e;omega) (by decide) (HR.out.2.2.2)).mono ?_
 rintro e w9 ⟨rfl,hX9,hb9⟩
 have hS9:=HCEL.out _ _ (show Below wf.heap.size w8 w9 by rw [ha2];exact hb9) hS8
 have hB9:=hB8.trans (show Below wf.heap.size w8 w9 by rw [ha2];exact hb9)
 refine hK _ _ hS9 ?_
 clear hK K hX8 hb9 hS8 hB8
 refine x_show' rfl (fun K hK=> ?_)
 go_simp
 refine (text_x hX9 x.data HSZ.out (fun L e=>by have:=hl9 L e;have:=HSZ64.out;omega)).mono ?_
 rintro e w10 ⟨rfl,hX10,hb10⟩
 have hS10:=HCEL.out _ _ (show Below wf.heap.size w9 w10 by rw [ha2];exact hb10) hS9
 have hB10:=hB9.trans (show Below wf.heap.size w9 w10 by rw [ha2];exact hb10)
 refine hK _ _ hS10 ?_
 clear hK K hX9 hb10 hS9 hB9
 iterate 1 (refine x_take rfl (fun K hK=> ?_);go_simp;refine hK _ ?_;clear hK K)
 refine x_nil ?_
 have HX:=Lib.hid hX10
 have HBX:=Lib.hid (HBF.out.trans (hB10.mono HBF.out.size))
 clear hS10 hX10 hB10 hl9
 have e1:(putX (putX (putX (putX (putX (putX (some []) x.used.toNat 1) x.dirty.toNat 1) (wideN x.blk.1) 6) (wideN x.blk.2.1) 31) (wideN x.blk.2.2) 3) x.ver 40).map (· ++txBits x.data)=stX x:=rfl
 have hX:=HX.out
 unfold textX at hX
 rw [e1,HST.out] at hX
 clear e1 HX
 by_cases hf:x.fits
 · rw [if_pos hf] at hX
   have hbl:=Slt.bits_len (.inr hf)
   have hdn:=done_any _ a _ x.bits hX.choose_spec (by omega)
   have HBLW:=HBX.out.size
   clear hX
   go_wp2_with fail
   refine hdn.mono ?_
   rintro e w8 ⟨v8,rfl,hO8,hb8⟩
   obtain ⟨a8,n8,c8,rfl⟩:=hO8.shape
   obtain ⟨_,_,hv8,_⟩:=hO8.sl el8.len
   have hn8:n8=(pack x.bits).length:=by
     simp at hv8
     omega
   subst hn8
   have hO8':=hO8.mono HBLW
   have hpk:(pack x.bits).length≤128:=by rw [pack_len];omega
   have hsub:(128:Int)-(((pack x.bits).length:Nat):Int)=((128-(pack x.bits).length:Nat):Int):=by omega
   have hpl1:(pack x.bits).length+(128-(pack x.bits).length)≤100000:=by omega
   have hpk':(((pack x.bits).length:Nat):Int)≤128:=by omega
   have HB8:=Lib.hid (HBX.out.trans (hb8.mono HBLW))
   clear hO8 hv8 hb8 hdn hbl
   go_wp2_with (first
     |((with_reducible refine wpList_appendZ el8 Tryz.underlying3 0 en8_0 zero8 hO8' (128-(pack x.bits).length) hpl1 ?_ ?_ ?_);rfl;(first|rfl|exact congrArg (Value.int .i64) hsub);(intro v9 w9 hO9 hb9;have HO9:=Lib.hid hO9;have HB9:=Lib.hid (HB8.out.trans hb9);clear hO9 hb9);go_frame)
     |fail)
   go_ret2
   unfold SEnc
   rw [if_pos (.inr hf)]
   exact ⟨⟨_,rfl,HO9.out⟩,HB9.out⟩
 · rw [if_neg hf] at hX
   have hnis:¬ x.is:=fun h=>h.elim HNO.out hf
   have hdn:=done_x (st:=none) hX (fun L e=>by cases e)
   have HX:=Lib.hid hX
   clear hX
   go_wp2_with fail
   refine hdn.mono ?_
   rintro e w8 (⟨L,v',h, -⟩|⟨-,rfl,hb8⟩)
   · cases h
   have HB8:=Lib.hid (HBX.out.trans (hb8.mono HBX.out.size))
   clear hdn hb8
   go_wp2
   go_ret2
   unfold SEnc
   rw [if_neg hnis]
   exact ⟨rfl,HB8.out⟩
end Go.Proofs.YtldimgchpgoggaaGreat
namespace Go.Tn.Slo
open Go.RowKit Go.Tn.Bt
theorem flat_at {f:UInt8→List Bool} (hf: ∀c,(f c).length=8): ∀(l:List UInt8) (k:Nat) (hk:k<l.length),((l.flatMap f).drop (8*k)).take 8=f l[k]
 | [],k,hk=>absurd hk (Nat.not_lt_zero k)
 |c::l,0,_=>by
   rw [List.flatMap_cons,Nat.mul_zero,List.drop_zero,List.take_append_of_le_length (by rw [hf];exact Nat.le_refl 8),List.take_of_length_le (by rw [hf];exact Nat.le_refl 8)]
   rfl
 |c::l,k+1,hk=>by
   rw [List.flatMap_cons,show 8*(k+1)=(f c).length+8*k by rw [hf];omega,List.drop_append,List.drop_of_length_le (by omega),List.nil_append,Nat.add_sub_cancel_left]
   exact flat_at hf l k (by simpa using hk)
theorem tx_head {X:List Bool} {s:ByteArray} (h:X.take (16+8*s.size)=txBits s) (hs:s.size<65536):natOf (X.take 16)=s.size:=by
 have e:X.take 16=bitsN s.size 16:=by
   have:=congrArg (List.take 16) h
   rw [List.take_take,Nat.min_eq_left (by omega)] at this
   rw [this]
   unfold txBits
   rw [List.take_append_of_le_length (by rw [bitsN_len];exact Nat.le_refl _),List.take_of_length_le (by rw [bitsN_len];exact Nat.le_refl _)]
 rw [e,natOf_bitsN,Nat.mod_eq_of_lt (by omega)]
theorem tx_byte {X:List Bool} {s:ByteArray} (h:X.take (16+8*s.size)=txBits s) {k:Nat} (hk:k<s.size):natOf ((X.drop (16+8*k)).take 8)=s[k].toNat:=by
 have e:(X.drop (16+8*k)).take 8=bitsN s[k].toNat 8:=by
   have h1:(X.drop (16+8*k)).take 8=((X.take (16+8*s.size)).drop (16+8*k)).take 8:=by
     rw [List.drop_take,List.take_take,Nat.min_eq_left (by omega)]
   rw [h1,h]
   unfold txBits
   rw [show 16+8*k=(bitsN s.size 16).length+8*k by rw [bitsN_len],List.drop_append,List.drop_of_length_le (by omega),List.nil_append,Nat.add_sub_cancel_left]
   have:=flat_at (f:=fun c:UInt8=>bitsN c.toNat 8) (fun c=>bitsN_len _ _) s.data.toList k hk
   rw [this]
   rfl
 rw [e,natOf_bitsN,Nat.mod_eq_of_lt s[k].toNat_lt]
def partTx (s:ByteArray) (k:Nat):List Nat:=(s.data.toList.take k).map (·.toNat)++List.replicate (s.size-k) 0
theorem data_len (s:ByteArray):s.data.toList.length=s.size:=rfl
theorem partTx_len (s:ByteArray) {k:Nat} (hk:k≤s.size):(partTx s k).length=s.size:=by
 unfold partTx
 rw [List.length_append,List.length_map,List.length_take,data_len,List.length_replicate]
 omega
theorem partTx_get (s:ByteArray) {k:Nat} (hk:k<s.size):(partTx s k)[k]?=some 0:=by
 unfold partTx
 rw [List.getElem?_append_right (by rw [List.length_map,List.length_take,data_len];omega),List.length_map,List.length_take,data_len,List.getElem?_replicate,if_pos (by omega)]
theorem partTx_set (s:ByteArray) {k:Nat} (hk:k<s.size):(partTx s k).set k s[k].toNat=partTx s (k+1):=by
 unfold partTx
 have hl:((s.data.toList.take k).map (·.toNat)).length=k:=by rw [List.length_map,List.length_take,data_len];omega
 rw [List.set_append,if_neg (by rw [hl];omega),hl,Nat.sub_self,
   show s.size-k=(s.size-(k+1))+1 by omega,List.replicate_succ,List.set_cons_zero,List.take_succ_eq_append_getElem (by rw [data_len];exact hk),List.map_append,List.append_assoc]
 rfl
theorem partTx_str (s:ByteArray):strOfNums ((partTx s s.size).map fun (n:Nat)=>(n:Int))=s:=by
 unfold partTx strOfNums
 rw [Nat.sub_self,List.replicate_zero,List.append_nil,List.take_of_length_le (by rw [data_len];exact Nat.le_refl _),List.map_map,List.map_map]
 have:s.data.toList.map (fun c:UInt8=>UInt8.ofNat ((c.toNat:Nat):Int).toNat)=s.data.toList:=by
   conv=>rhs;rw [←List.map_id s.data.toList]
   refine List.map_congr_left fun c _=> ?_
   simp
 show (⟨(s.data.toList.map (fun c:UInt8=>UInt8.ofNat ((c.toNat:Nat):Int).toNat)).toArray⟩:ByteArray)=s
 rw [this]
end Go.Tn.Slo
namespace Go.Proofs.YtldimgchpgoggaaGreat
open Go.RowKit Go.Tn Go.Tn.Bt Go.Tn.Ino Go.Tn.Slo
theorem exec_convS {w:World} {b n cap:Nat} {bs:List Nat} (h:LSl en8 1 w (.slice (some ⟨b,0,none⟩) n cap) bs) {ρ:Operand→Value} {dst:Option Tmp} {ty:TypeId} {pos:String} {after:Array Edge} {g:Option (Nat×Bool)} {x:Operand} (hx:ρ x= .slice (some ⟨b,0,none⟩) n cap):
   (execOp ρ ⟨dst, .convert 107 9 x,ty,pos,after,g⟩).run Tryz.prog w= .ok (.value (.string (strOfNums (bs.map fun (n:Nat)=>(n:Int))))) w:=by
 obtain ⟨ao,c,hv,h1,h2,h3⟩:=h
 cases hv
 have hr:=run_convert_bytes_arg (P:=Tryz.prog) w 107 5 Tryz.underlying107 Tryz.underlying5 b 0 bs.length cap (bs.map fun (n:Nat)=>(n:Int)) (by simp) (fun i hi=>by
   obtain ⟨b',o',he,_,hc⟩:=h3 (by omega)
   cases he
   have hi':bs[i]?=some bs[i]:=List.getElem?_eq_getElem hi
   have:=hc i _ hi' 0 (by simp)
   simp only [Nat.zero_add,Nat.mul_one,Nat.add_zero] at this ⊢
   rw [this]
   simp [List.getD,hi]) 9 Tryz.underlying9
 simp only [execOp,hx,Sem.run_bind,hr,Result.andThen_ok,Sem.run_pure]
set_option maxRecDepth 20000 in
set_option maxHeartbeats 4000000 in
theorem rtext_any {w:World} {a:Nat} {v:Value} {B:List Nat} {at_:Nat} (h:RdAt w a v B at_ 0) (s:ByteArray) (hs:s.size≤1000) (hat:at_+(16+8*s.size)≤8*B.length) (hb:((unpack B).drop at_).take (16+8*s.size)=txBits s):Calls Tryz.prog 122 #[.pointer (some ⟨a,0,none⟩)] w
   fun e w'=>e= .returned (.string s)∧RdAt w' a v B (at_+(16+8*s.size)) 0∧Mod (fun x=>x=a) w w':=by
 have hg:=get_ok h 16 (by decide) (by omega)
 rw [tx_head hb (by omega),show ((16:Nat):Int)=16 from rfl] at hg
 have HB:=Lib.hid hb
 have HS:=Lib.hid hs
 have HAT:=Lib.hid hat
 have hlen:=h.len
 have hn1:(s.size:Int)≤1000:=by omega
 have hal:=lt_of_block h.blk
 clear h hb hs hat
 go_enter Tryz.func122,Tryz.ntmps122
 go_wp2_with fail
 refine hg.mono ?_
 rintro e w2 ⟨rfl,hR2,hm2⟩
 have he2:=rerr_any hR2
 have hl2:=left_any hR2 (by have:=HAT.out;omega)
 have HR2:=Lib.hid hR2
 have HM2:=Lib.hid hm2
 have HLEN:=Lib.hid hlen
 have hle:decide (((8*B.length-(at_+16):Nat):Int)<8*((s.size:Nat):Int))=false:=decide_eq_false (by have:=HAT.out;omega)
 generalize 8*B.length-(at_+16)=lf at*
 clear hg hR2 hm2 hlen
 go_upto_region 4 with (first
   |(go_at_call 123;refine he2.mono ?_;rintro e wt ⟨rfl,hw⟩;obtain rfl:=hw.symm;clear hw)
   |(go_at_call 147;refine hl2.mono ?_;rintro e w3 ⟨rfl,hb3⟩;have HB3:=Lib.hid hb3;clear hb3)
   |fail)
 have hR3:=HR2.out.below HB3.out
 have he3:=rerr_any hR3
 have HR3:=Lib.hid hR3
 obtain ⟨w4,hmk,hO4,hb4,hz4⟩:=exec_makeA el8 0 zero_en8 s.size (by have:=HS.out;omega) w3
 have HO4:=Lib.hid hO4
 have HB4:=Lib.hid hb4
 clear he2 hl2 hle hR3 hO4 hb4 hz4
 go_wp2_with (first
   |(go_at_call 123;refine he3.mono ?_;rintro e wt ⟨rfl,hw⟩;obtain rfl:=hw.symm;clear hw)
   |((with_reducible refine wpList_exec rfl (hmk _ _ _ _ _ _ _ _ ?_ ?_) ?_);rfl;rfl;go_frame)
   |fail)
 have hp0:partTx s 0=List.replicate s.size 0:=by simp [partTx]
 have HP0:=Lib.hid hp0
 have HA3:=Lib.hid (show a<w3.heap.size from Nat.lt_of_lt_of_le (Nat.lt_of_lt_of_le hal HM2.out.size) HB3.out.size)
 clear he3 hmk hp0
 generalize hg3:w3.heap.size=g at*
 have HG3:=Lib.hid hg3
 clear hg3
 go_loopw [29] (fun iv wi=> ∃k:Nat,k≤s.size∧iv= .int .i64 k∧RdAt wi a v B (at_+(16+8*k)) 0∧LOut en8 1 5 g wi (.slice (some ⟨g,0,none⟩) s.size s.size) (partTx s k)∧Mod (fun x=>x=a∨x=g) w4 wi) (fun iv _=>s.size-(intOf iv).toNat)
 case atStart=>exact ⟨0,Nat.zero_le _,rfl,HR3.out.below (by rw [HG3.out];exact HB4.out),by rw [HP0.out];exact HO4.out,Mod.refl _ _⟩
 case round=>
   obtain ⟨k,hk,rfl,hR,hO,hm⟩:=hrel
   have HM:=Lib.hid hm
   clear hm
   by_cases hks:k<s.size
   · have hg:=get_ok hR 8 (by decide) (by have:=HAT.out;omega)
     have hby:natOf (((unpack B).drop (at_+(16+8*k))).take 8)=s[k].toNat:=by
       rw [←List.drop_drop]
       exact tx_byte HB.out hks
     rw [hby,show ((8:Nat):Int)=8 from rfl] at hg
     have hlt:s[k].toNat<256:=s[k].toNat_lt
     have hw8:IntKind.u8.wrap ((s[k].toNat:Nat):Int)=((s[k].toNat:Nat):Int):=by rw [wrap8,Nat.mod_eq_of_lt hlt]
     have hkb:(k:Int)<1000:=by omega
     have HO:=Lib.hid hO
     clear hR hby hlt hO
     go_wp2_with fail
     refine hg.mono ?_
     rintro e w5 ⟨rfl,hR5,hm5⟩
     have hO5:LOut en8 1 5 g w5 (.slice (some ⟨g,0,none⟩) s.size s.size) (partTx s k):=HO.out.kept hm5.size fun r hr=>hm5.block r (HO.out.lt hr) (fun e=>by cases hr;have:=HA3.out;have e:g=a:=e;omega)
     have hset:=LOut.set (en:=en8) (k:=1) (fun _=>rfl) hO5 (partTx_get s hks) (j:=0) (by decide) (y:=s[k].toNat) (u:= .int .u8 (s[k].toNat:Nat)) rfl
     rw [partTx_set s hks,Nat.mul_one,Nat.add_zero] at hset
     have hcell:w5.cell? ⟨g,k,none⟩=some (.int .u8 0):=by
       obtain ⟨ao,cp,hv, -, -,h3⟩:=hO5.sl el8.len
       obtain ⟨b',o',rfl,_,hc⟩:=h3 (by rw [partTx_len s (by omega)];omega)
       injection hv with h1 h2 h4
       cases h1
       have:=hc k 0 (partTx_get s hks) 0 (by simp)
       simpa using this
     have hfz:w5.frozen? ⟨g,k,none⟩=false:=by
       rcases hO5.own.2 with ⟨hv,_⟩|⟨g',cap',cur,hv,_,hgg,_⟩
       · cases hv
       · injection hv with h1 h2 h4
         cases h1
         exact free_of hgg
     have hm5':=(hm5.mono (T:=fun x=>x=a∨x=g) fun x _ h=> .inl h).setCell ⟨g,k,none⟩ (.int .u8 (s[k].toNat:Nat)) (fun _=> .inr rfl)
     have hR6:=hR5.mod (S:=fun x=>x=g) ((Mod.refl _ w5).setCell ⟨g,k,none⟩ (.int .u8 (s[k].toNat:Nat)) (fun _=>rfl)) (fun e=>by have:=HA3.out;have e:a=g:=e;omega) (fun r hr e=>by
       have:=HR3.out.bs.lt hr
       rw [HG3.out] at this
       have e:r=g:=e
       omega)
     have HSET:=Lib.hid (show LOut en8 1 5 g (w5.setCell ⟨g,0+k,none⟩ (.int .u8 (s[k].toNat:Nat))) (.slice (some ⟨g,0,none⟩) s.size s.size) (partTx s (k+1)) from hset)
     have HM6:=Lib.hid hm5'
     have HR6:=Lib.hid hR6
     rw [Nat.zero_add] at HSET
     clear hg hR5 hm5 hO5 hset hm5' hR6
     go_wp2
     go_roundw
     case rel=>exact ⟨k+1,by omega,by go_num,HR6.out,HSET.out,HM.out.trans HM6.out (fun x h=>h) (fun x _ h=>h)⟩
     case measure=>simp [intOf];omega
   · obtain rfl:k=s.size:=by omega
     have hsl:=hO.sl el8.len
     have hps:=partTx_str s
     have HR:=Lib.hid hR
     have hmm:Mod (fun x=>x=a) w wr:=(HM2.out.trans ((Mod.of_below HB3.out).trans (Mod.of_below HB4.out) (T:=fun x=>w2.heap.size≤x) (fun x h=>h) (fun x _ h=>Nat.le_trans HB3.out.size (by rw [HG3.out];exact h))) (T:=fun x=>x=a) (fun x h=>h) (fun x hx h=>absurd (Nat.lt_of_lt_of_le hx HM2.out.size) (Nat.not_lt.2 h))).trans HM.out (fun x h=>h) (fun x hx h=>h.elim id (fun e=>by
       have h1:=HM2.out.size
       have h2:=HB3.out.size
       have h3:=HG3.out
       omega))
     have HMM:=Lib.hid hmm
     have hat':at_+(16+8*s.size)=at_+(16+8*s.size):=rfl
     clear hR hO hmm hks hk hat'
     rw [show (partTx s s.size).map (fun (n:Nat)=>(n:Int))=(partTx s s.size).map fun (n:Nat)=>(n:Int) from rfl] at hps
     have hcv:=fun (ρ:Operand→Value) (dst:Option Tmp) (ty:TypeId) (pos:String) (after:Array Edge) (g':Option (Nat×Bool)) (x:Operand) (hx:ρ x= .slice (some ⟨g,0,none⟩) s.size s.size)=>exec_convS hsl (ρ:=ρ) (dst:=dst) (ty:=ty) (pos:=pos) (after:=after) (g:=g') hx
     rw [hps] at hcv
     clear hps hsl
     go_wp2_with (first
       |((with_reducible refine wpList_exec rfl (hcv _ _ _ _ _ _ _ ?_) ?_);rfl;go_frame)
       |fail)
     go_ret
     exact ⟨rfl,HR.out,HMM.out⟩
end Go.Proofs.YtldimgchpgoggaaGreat
