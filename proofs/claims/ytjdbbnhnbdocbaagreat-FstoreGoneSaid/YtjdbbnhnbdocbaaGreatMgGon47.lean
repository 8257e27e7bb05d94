/- Proved: FstoreGone returns true and its arguments read as they did. No condition: of all calls and texts. -/
import Derived.Test.YtjdbbnhnbdocbaaGreatMgGon46
import Derived.WalkKit
import Derived.Below
import Derived.ProofKit
import Derived.OpenShut
import Derived.ShutString
import Derived.ChangeOld
import Derived.Lib.SmallJoins
import Derived.ChangeMaps5
namespace Go.Proofs.YtjdbbnhnbdocbaaGreat
open Go.RowKit Go.Tn Go.Tn.Bt Go.Tn.Lp Go.Tn.Dk Go.Tn.Ino Go.Tn.Dr Go.Tn.Fm Go.Tn.Names
theorem root_tree:Tree Sm.root.N:=by
 have hL: ∀j y,y∉(Sm.root.N j).L:=fun j y hy=>by
  unfold Sm.root at hy
  simp only at hy
  split at hy<;>cases hy
 refine ⟨⟨rfl,rfl⟩,fun j y hy=>absurd hy (hL j y),fun j hj=> ?_,fun j y hy=>absurd hy (hL j y),fun j j' y y' hy=>absurd hy (hL j y),fun i hi h0=> ?_,⟨fun _=>0,fun j y hy=>absurd hy (hL j y)⟩⟩
 ·unfold Sm.root at hj
  simp only at hj
  by_cases h:j=1
  ·omega
  ·rw [if_neg h] at hj
   exact absurd rfl hj
 ·unfold Sm.root at h0
  simp only at h0
  rw [if_neg (by omega)] at h0
  exact absurd rfl h0
structure FTr (w0:World) (s p n i N:Nat) (M:Sm) (O:Nat→Prop) (wi:World):Prop where
 st:FSt w0 s p n i N M O wi
 tree:Tree M.N
section
variable {w0 wi w':World} {s p n i N:Nat} {M:Sm} {O:Nat→Prop}
theorem FTr.nd (h:FTr w0 s p n i N M O wi): ∀j,NdOk (M.N j):=by
 obtain ⟨V,hV⟩:=h.st.rep
 exact hV.nd
theorem FTr.below (h:FTr w0 s p n i N M O wi) (hb:Below wi.heap.size wi w'):FTr w0 s p n i N M O w':=⟨h.st.below hb,h.tree⟩
theorem FTr.mono {j:Nat} (h:FTr w0 s p n i N M O wi) (hj:i≤j):FTr w0 s p n j N M O wi:=⟨h.st.mono hj,h.tree⟩
theorem FTr.does (h:FTr w0 s p n i N M O wi) (hi:i≤800) (x:DoX×Sv) (hk:0≤x.1.kind∧x.1.kind<5):Calls Tryz.prog 13 #[.pointer (some ⟨s,0,none⟩), .agg (doC x)] wi
  fun e w'=> ∃r M' O',e= .returned (.agg (dnC r))∧DoR M N x.1 r M'∧FTo wi O w' O'∧FTr w0 s p n (i+2) N M' O' w'∧Later M.N M'.N:=by
 refine (does_any h.st h.tree hi x hk).mono ?_
 rintro e w' ⟨r,M',O',rfl,hR,hto,hS⟩
 have hg:=hR.goes h.tree h.nd
 exact ⟨r,M',O',rfl,hR,hto,⟨hS,hg.tree⟩,hg.later⟩
theorem FTr.remove (h:FTr w0 s p n i N M O wi) (hi:i≤800) (f:Int×Int) (t:ByteArray):Calls Tryz.prog 26 #[.pointer (some ⟨s,0,none⟩), .agg #[.int .i64 f.1, .int .i64 f.2], .string t] wi
  fun e w'=> ∃O',FTo wi O w' O'∧((∃c,c≠0∧RemoveNo M f t c∧e=retE c∧FTr w0 s p n i N M O' w')∨ ∃M',RemoveYes M f t M'∧e=retE 0∧FTr w0 s p n (i+2) N M' O' w'∧Later M.N M'.N):=by
 refine (h.st.remove h.tree hi f t).mono ?_
 rintro e w' ⟨O',ho,⟨c,h1,h2,h3,h4⟩|⟨M',h1,h2,h3⟩⟩
 ·exact ⟨O',ho, .inl ⟨c,h1,h2,h3,h4,h.tree⟩⟩
 ·have hg:=h1.goes h.tree h.nd
  exact ⟨O',ho, .inr ⟨M',h1,h2,⟨h3,hg.tree⟩,hg.later⟩⟩
theorem FTr.write (h:FTr w0 s p n i N M O wi) (hi:i≤800) (f:Int×Int) (k:Int) (t:ByteArray):Calls Tryz.prog 28 #[.pointer (some ⟨s,0,none⟩), .agg #[.int .i64 f.1, .int .i64 f.2], .int .i64 k, .string t] wi
  fun e w'=> ∃O',FTo wi O w' O'∧((∃c,c≠0∧WriteNo M N f k t c∧e=retT 0 c∧FTr w0 s p n i N M O' w')∨ ∃v M',WriteYes M f k t v M'∧e=retT v 0∧FTr w0 s p n (i+2) N M' O' w'∧Later M.N M'.N):=by
 refine (h.st.write hi f k t).mono ?_
 rintro e w' ⟨O',ho,⟨c,h1,h2,h3,h4⟩|⟨v,M',h1,h2,h3⟩⟩
 ·exact ⟨O',ho, .inl ⟨c,h1,h2,h3,h4,h.tree⟩⟩
 ·have hg:=h1.goes h.tree
  exact ⟨O',ho, .inr ⟨v,M',h1,h2,⟨h3,hg.tree⟩,hg.later⟩⟩
theorem FSt.lookup (h:FSt w0 s p n i N M O wi) (f:Int×Int) (t:ByteArray):Calls Tryz.prog 24 #[.pointer (some ⟨s,0,none⟩), .agg #[.int .i64 f.1, .int .i64 f.2], .string t] wi
  fun e w'=>(∃x c,e= .returned (.tuple #[.agg (entC x), .int .i64 (c:Nat)])∧LookC M f t x c)∧Below wi.heap.size wi w':=by
 obtain ⟨F,FD,g,l,d,h1,h2,h3,h4⟩:=h.ex
 exact flookup_any h1 f t
theorem FSt.attr (h:FSt w0 s p n i N M O wi) (f:Int×Int):Calls Tryz.prog 20 #[.pointer (some ⟨s,0,none⟩), .agg #[.int .i64 f.1, .int .i64 f.2]] wi
  fun e w'=>(∃k v n c,e= .returned (.tuple #[.agg (attrC k v n), .int .i64 (c:Nat)])∧AttrC M f k v n c)∧Below wi.heap.size wi w':=by
 obtain ⟨F,FD,g,l,d,h1,h2,h3,h4⟩:=h.ex
 exact fattr_any h1 f
theorem there_dead {i g:Nat} (h:Dead M.N i g):M.there ((i:Int),(g:Int))=none:=by
 unfold Sm.there
 simp only [Int.toNat_natCast]
 rw [if_neg]
 rintro ⟨-, -,h3,h4⟩
 rcases h with h|⟨h5,h6⟩
 ·omega
 ·exact h3 h6
theorem of_dead {f:Int×Int} (h:M.there f=none) (k:Nat):M.of f k=(0,14):=by
 unfold Sm.of
 rw [h]
def txtX:ByteArray:={data:= #[120]}
theorem write_dead {c N:Nat} {f:Int×Int} (hd:M.there f=none) (h:WriteNo M N f 0 txtX c):c=14:=by
 have hof:=of_dead hd 2
 cases h with
 | out h=>omega
 | big _ _ h=>exact absurd h (by decide)
 | of _ _ _ h=>rw [hof]
 | full _ _ _ h0=>rw [hof] at h0;cases h0
theorem remove_dead {M':Sm} {t:ByteArray} {x:Ent} {f:Int×Int} (hT:Tree M.N) (hnd: ∀j,NdOk (M.N j)) (hx:x∈(M.N (M.of f 1).1).L) (hxt:x.name=t) (h:RemoveYes M f t M'):Dead M'.N x.ino x.gen:=by
 obtain ⟨y,hy,hyt, -,hN⟩:=h.N
 obtain rfl:x=y:=(rise_of (hnd _)).inj hx hy (by rw [hxt,hyt])
 have he:=hT.ent _ x hx
 refine .inr ⟨?_,?_⟩
 ·rw [hN,Fm.upd_ne _ _ (hT.below hx),Fm.upd_at]
  exact he.2.2.2.2
 ·rw [hN,Fm.upd_ne _ _ (hT.below hx),Fm.upd_at]
  rfl
end
theorem eqGAt:Tryz.prog.eqGuardType Tryz.prog.depth 60=false:=by kernel_rfl
theorem eqZAt (w:World):(Op.equalIn 10000 60 (.agg (attrC 0 0 0)) (.agg (attrC 0 0 0))).run Tryz.prog w= .ok true w:=by kernel_rfl
theorem built_zAt:Tryz.prog.built 60 []=some (attrC 0 0 0):=by kernel_rfl
structure Calld (w:World) (v:Value) (xs:List (DoX×Sv)):Prop where
 sl:LSl enDoX 9 w v xs
 fine: ∀x∈xs,DoX.fine w x
theorem Calld.at_ {w:World} {v:Value} {xs:List (DoX×Sv)} (h:Calld w v xs) {k:Nat} (hk:k<xs.length): ∃x b o c,xs[k]?=some x∧v= .slice (some ⟨b,o,none⟩) xs.length c∧b<w.heap.size∧Lies w b (o+k*9) (doC x)∧DoX.fine w x:=by
 obtain ⟨x,hx⟩: ∃x,xs[k]?=some x:=⟨_,List.getElem?_eq_getElem hk⟩
 obtain ⟨b,o,c,h1,h2,h3⟩:=h.sl.at_ hx
 exact ⟨x,b,o,c,hx,h1,h2,h3,h.fine x (List.mem_of_getElem? hx)⟩
theorem Calld.of {w:World} {v:Value} {ds:List DoX} (h:DosX w v ds): ∃xs,Calld w v xs∧xs.length=ds.length:=by
 obtain ⟨xs,h1,h2,h3⟩:=h
 exact ⟨xs,⟨h2,h3⟩,by rw [←h1];simp⟩
set_option maxRecDepth 40000 in
set_option maxHeartbeats 16000000 in
theorem gone_walk (w:World) (v1 v2:Value) (d1 d2:List DoX) (h1:DosX w v1 d1) (h2:DosX w v2 d2) (t:ByteArray) (ht:t.size≤maxLen):Calls Tryz.prog 4 #[v1,v2, .string t] w fun e w'=>e= .returned (.bool true)∧Below w.heap.size w w':=by
 have hf1:=few_any w v1 d1 h1 15 (by decide)
 rw [show ((15:Nat):Int)=15 from rfl] at hf1
 obtain ⟨a1,n1,c1,rfl⟩: ∃a n c,v1= .slice a n c:=by
  obtain ⟨xs, -,⟨ao,cap,rfl, -⟩, -⟩:=h1
  exact ⟨_,_,_,rfl⟩
 obtain ⟨a2,n2,c2,rfl⟩: ∃a n c,v2= .slice a n c:=by
  obtain ⟨xs, -,⟨ao,cap,rfl, -⟩, -⟩:=h2
  exact ⟨_,_,_,rfl⟩
 have H2:=Lib.hid h2
 have HTS:=Lib.hid ht
 clear h1 h2 ht
 go_enter Tryz.func4,Tryz.ntmps4
 go_wp2_with fail
 refine hf1.mono ?_
 rintro e wa ⟨va,ea,rfl,hDa,hla, -,hba⟩
 have hf2:=few_any wa _ d2 (H2.out.below hba) 20 (by decide)
 rw [show ((20:Nat):Int)=20 from rfl] at hf2
 obtain ⟨aa,na,ca,rfl⟩: ∃a n c,va= .slice a n c:=by
  obtain ⟨xs, -,⟨ao,cap,rfl, -⟩, -⟩:=hDa
  exact ⟨_,_,_,rfl⟩
 have HDA:=Lib.hid hDa
 have HLA:=Lib.hid hla
 have HBA:=Lib.hid hba
 clear hf1 hDa hla hba
 go_wp2_with fail
 refine hf2.mono ?_
 rintro e wl ⟨vb,eb,rfl,hDb,hlb, -,hbb⟩
 have hsh:=short_any wl t 20 HTS.out (by decide)
 rw [show ((20:Nat):Int)=20 from rfl] at hsh
 obtain ⟨xa,hXa,hxal⟩:=Calld.of (HDA.out.below hbb)
 obtain ⟨xb,hXb,hxbl⟩:=Calld.of hDb
 obtain ⟨ab,nb,cb,rfl⟩: ∃a n c,vb= .slice a n c:=by
  obtain ⟨xs, -,⟨ao,cap,rfl, -⟩, -⟩:=hDb
  exact ⟨_,_,_,rfl⟩
 obtain rfl:na=xa.length:=by
  obtain ⟨ao,cap,e, -⟩:=hXa.sl
  exact (Value.slice.inj e).2.1
 obtain rfl:nb=xb.length:=by
  obtain ⟨ao,cap,e, -⟩:=hXb.sl
  exact (Value.slice.inj e).2.1
 have HXA:=Lib.hid hXa
 have HXB:=Lib.hid hXb
 have hla15:(xa.length:Int)≤15:=by have:=HLA.out;omega
 have hlb20:(xb.length:Int)≤20:=by omega
 have HBL:=Lib.hid (HBA.out.trans (hbb.mono HBA.out.size))
 clear hf2 hDb hlb hbb hXa hXb hxal hxbl HDA HLA H2
 go_wp2_with fail
 refine hsh.mono ?_
 rintro e wt ⟨u,rfl, -, -,hw⟩
 obtain rfl:=hw.symm
 clear hw hsh
 have hnd:=newd_any wl 102 (by decide) (by decide)
 rw [show ((102:Nat):Int)=102 from rfl] at hnd
 go_wp2_with fail
 refine hnd.mono ?_
 rintro e w1 ⟨p,FD,rfl,hD,hb1,hF⟩
 have hop:=fnew_any (n:=20) hD hb1 hF (by decide) (by decide) (by decide) (by decide)
 rw [show ((20:Nat):Int)=20 from rfl] at hop
 clear hnd hD hb1 hF
 go_wp2_with fail
 refine hop.mono ?_
 rintro e w2 ⟨s,O2,rfl,hS2, -⟩
 have HS2:Hid (FTr wl s p 20 2 80 Sm.root O2 w2):=Lib.hid ⟨hS2,root_tree⟩
 clear hop hS2
 go_wp2
 go_loopw [11] (fun iv wi=> ∃(k:Nat) (M:Sm) (O:Nat→Prop),k≤xa.length∧iv= .int .i64 k∧FTr wl s p 20 (2+2*k) 80 M O wi) (fun iv _=>xa.length-(intOf iv).toNat)
 case atStart=>exact ⟨0,Sm.root,O2,Nat.zero_le _,rfl,HS2.out⟩
 case round=>
  clear HS2 O2
  obtain ⟨k,M,O,hk,rfl,hS⟩:=hrel
  have HS:=Lib.hid hS
  clear hS
  by_cases hkl:k<xa.length
  ·as_aux_lemma=>
   have hkl':(k:Int)<(xa.length:Int):=by omega
   obtain ⟨x,b4,o4,c4,hx,hv,hb4,hlx0,hfx⟩:=HXA.out.at_ hkl
   obtain ⟨rfl, -,rfl⟩:=Value.slice.inj hv
   have hlx:Lies wr b4 (o4+k*9) (doC x):=hlx0.below' HS.out.st.w hb4
   have hag:=aggDo x
   obtain ⟨kd,hkd⟩: ∃k,x.1.kind=k:=⟨_,rfl⟩
   have q0:wr.cell? ⟨b4,o4+k*9,none⟩=some (.int .i64 kd):=by
    rw [←hkd]
    exact hlx 0 (by show 0<9;decide)
   have HKD:=Lib.hid hkd
   clear hx hv hb4 hlx0 hfx hkd
   by_cases h0:0≤kd
   ·by_cases h5:kd<5
    ·have hdo:=HS.out.does (by omega) x (by rw [HKD.out];exact ⟨h0,h5⟩)
     go_wp2_with (first
      | ((with_reducible refine wpList_loadA hag hlx ?_ ?_);rfl;go_frame)
      | fail)
     refine hdo.mono ?_
     rintro e w3 ⟨r,M',O',rfl, -, -,hS', -⟩
     have HS':=Lib.hid hS'
     clear hdo hS' hlx q0
     go_wp2
     go_roundw
     case rel=>exact ⟨k+1,M',O',by omega,by go_num,HS'.out.mono (by omega)⟩
     case measure=>simp [intOf];omega
    ·clear hlx hag
     go_wp2
     go_roundw
     case rel=>exact ⟨k+1,M,O,by omega,by go_num,HS.out.mono (by omega)⟩
     case measure=>simp [intOf];omega
   ·clear hlx hag
    go_wp2
    go_roundw
    case rel=>exact ⟨k+1,M,O,by omega,by go_num,HS.out.mono (by omega)⟩
    case measure=>simp [intOf];omega
  ·as_aux_lemma=>
   obtain rfl:k=xa.length:=by omega
   have hkl':¬ (xa.length:Int)<(xa.length:Int):=by omega
   have hro:=froot_any wr
   go_wp2_with fail
   refine hro.mono ?_
   rintro e w3 ⟨rfl,hb3⟩
   have HS3:=Lib.hid (HS.out.below hb3)
   have hlo:=HS3.out.st.lookup (1,1) u
   clear hro hb3 HS hkl'
   go_wp2_with fail
   refine hlo.mono ?_
   rintro e w4 ⟨⟨x,c,rfl,hC⟩,hb4⟩
   have hagx:=aggEn x
   have honex:=oneEn x
   obtain ⟨w5,hw5⟩: ∃w5,w4.alloc (.cells (entC x) 64)=w5:=⟨_,rfl⟩
   have hb5:Below w4.heap.size w4 w5:=by rw [←hw5];exact (Below.refl _ _).alloc (Nat.le_refl _) _
   have hX5:w5.heap[w4.heap.size]?=some (.cells (entC x) 64 (0,0)):=by rw [←hw5];exact heap_alloc_at
   have HS5:=Lib.hid (HS3.out.below (hb4.trans (hb5.mono hb4.size)))
   have hxO:¬ O w4.heap.size:=fun h=>by
    have h1:=HS3.out.st.lt _ h
    have h2:=hb4.size
    omega
   have HXO:=Lib.hid hxO
   have HX5:=Lib.hid hX5
   have HC:=Lib.hid hC
   clear hlo hC hb4 hb5 hX5 hxO
   go_upto_region 12 with (first
    | ((with_reducible refine wpList_storeA_new hagx ?_ honex ?_ ?_ ?_);rfl;rfl;rfl;go_frame)
    | fail)
   simp only [hw5] at*
   clear hw5
   have hlv:=fun w'=>lives_any w'
   by_cases hc0:c=0
   ·subst hc0
    have hro:=froot_any w5
    go_wp2_with fail
    refine hro.mono ?_
    rintro e w6 ⟨rfl,hb6⟩
    have HS6:=Lib.hid (HS5.out.below hb6)
    have HX6:=Lib.hid ((hb6.block _ (lt_of_block HX5.out)).trans HX5.out)
    have hrm:=HS6.out.remove (by omega) (1,1) u
    clear hro hb6
    go_wp2_with fail
    refine hrm.mono ?_
    rintro e w7 ⟨O7,hto,hc7⟩
    have HX7:=Lib.hid (hto.mod.heap HX6.out HXO.out)
    have hxO7:¬ O7 w4.heap.size:=fun h=>(hto.new _ h).elim HXO.out fun h=>by have:=lt_of_block HX6.out;omega
    have HXO7:=Lib.hid hxO7
    clear hto hxO7 hrm
    rcases hc7 with ⟨c7,hc70, -,rfl,hS7⟩|⟨M',hy,rfl,hS7, -⟩
    ·have e0:((c7:Int) !=0)=true:=by simp;omega
     have HS7:=Lib.hid hS7
     have hl:=hlv w7
     clear hS7 hc70 hlv
     unfold retE
     go_wp2_with fail
     refine hl.mono ?_
     rintro e w8 ⟨rfl,hb8⟩
     have HB8:=Lib.hid (HBL.out.trans ((HS7.out.st.w.trans (hb8.mono HS7.out.st.w.size)).mono HBL.out.size))
     clear hl hb8
     go_wp2
     go_ret
     exact ⟨rfl,HB8.out⟩
    ·have hxm:x∈(M.N (M.of (1,1) 1).1).L∧x.name=u:=by
      rcases HC.out with ⟨-,h, -⟩|⟨-,⟨h,h2, -⟩|⟨-,⟨-,h1,h2⟩|⟨h, -⟩⟩⟩
      ·cases h
      ·exact absurd h2.symm h
      ·exact ⟨h1,h2⟩
      ·cases h
     have hdd:=remove_dead HS6.out.tree HS6.out.nd hxm.1 hxm.2 hy
     have HS7:=Lib.hid hS7
     have HDD:=Lib.hid hdd
     clear hS7 hdd hxm hy hlv HS5 HX5 HX6 HS6 HC
     unfold retE
     go_wp2
     go_loopw [13] (fun iv wi=> ∃(k:Nat) (M:Sm) (O:Nat→Prop),k≤xb.length∧iv= .int .i64 k∧FTr wl s p 20 (40+4*k) 80 M O wi∧Dead M.N x.ino x.gen∧wi.heap[w4.heap.size]?=some (.cells (entC x) 64 (0,0))∧¬ O w4.heap.size) (fun iv _=>xb.length-(intOf iv).toNat)
     case atStart=>exact ⟨0,M',O7,Nat.zero_le _,rfl,HS7.out.mono (by omega),HDD.out,HX7.out,HXO7.out⟩
     case round=>
      clear HS7 HDD HX7 HXO7 HXO
      obtain ⟨k,M2,O2,hk,rfl,hS,hd,hX,hO⟩:=hrel
      have HS:=Lib.hid hS
      have HD:=Lib.hid hd
      have HX:=Lib.hid hX
      have HO:=Lib.hid hO
      clear hS hd hX hO
      by_cases hkl:k<xb.length
      ·have hkl':(k:Int)<(xb.length:Int):=by omega
       obtain ⟨y,b4,o4,c4,hy,hv,hb4,hly0,hfy⟩:=HXB.out.at_ hkl
       obtain ⟨rfl, -,rfl⟩:=Value.slice.inj hv
       have hly:Lies wr b4 (o4+k*9) (doC y):=hly0.below' HS.out.st.w hb4
       have hag:=aggDo y
       obtain ⟨kd,hkd⟩: ∃k,y.1.kind=k:=⟨_,rfl⟩
       have q0:wr.cell? ⟨b4,o4+k*9,none⟩=some (.int .i64 kd):=by
        rw [←hkd]
        exact hly 0 (by show 0<9;decide)
       have HKD:=Lib.hid hkd
       clear hy hv hb4 hly0 hfy hkd
       obtain ⟨q,hq⟩: ∃q,decide (0≤kd∧kd<5)=q:=⟨_,rfl⟩
       have HQ:=Lib.hid hq
       clear hq
       go_upto_region 17 with fail
       go_cut [100] (fun b wx=>b= .bool q∧wx=wr)
       case first=>
        by_cases h0:0≤kd
        ·by_cases h5:kd<5
         ·have hqt:Hid (q=true):=Lib.hid (by rw [←HQ.out];exact decide_eq_true ⟨h0,h5⟩)
          clear hly hag
          go_wp2
          go_meet
          case rel=>exact ⟨by rw [hqt.out],rfl⟩
         ·have hqt:Hid (q=false):=Lib.hid (by rw [←HQ.out];exact decide_eq_false fun h=>h5 h.2)
          clear hly hag
          go_wp2
          go_meet
          case rel=>exact ⟨by rw [hqt.out],rfl⟩
        ·have hqt:Hid (q=false):=Lib.hid (by rw [←HQ.out];exact decide_eq_false fun h=>h0 h.1)
         clear hly hag
         go_wp2
         go_meet
         case rel=>exact ⟨by rw [hqt.out],rfl⟩
       case rest=>
       obtain ⟨rfl,hwx⟩:=hcut
       obtain rfl:=hwx.symm
       clear hwx q0
       go_upto_if 100 with fail
       go_cut [13] (fun iv wx=>iv= .int .i64 k∧ ∃(M:Sm) (O:Nat→Prop),FTr wl s p 20 (40+4*k+2) 80 M O wx∧Dead M.N x.ino x.gen∧wx.heap[w4.heap.size]?=some (.cells (entC x) 64 (0,0))∧¬ O w4.heap.size)
       case first=>
        cases q with
        | true=>
         have hdo:=HS.out.does (by omega) y (by rw [HKD.out];exact of_decide_eq_true HQ.out)
         go_wp2_with (first
          | ((with_reducible refine wpList_loadA hag hly ?_ ?_);rfl;go_frame)
          | fail)
         refine hdo.mono ?_
         rintro e w8 ⟨r,M8,O8,rfl, -,hto,hS8,hL8⟩
         have HS8:=Lib.hid hS8
         have HD8:=Lib.hid (hL8.dead HD.out)
         have HX8:=Lib.hid (hto.mod.heap HX.out HO.out)
         have HO8:Hid (¬ O8 w4.heap.size):=Lib.hid fun h=>(hto.new _ h).elim HO.out fun h=>by have:=lt_of_block HX.out;omega
         clear hdo hto hS8 hL8 hly
         go_wp2
         go_meet
         case rel=>exact ⟨rfl,M8,O8,HS8.out,HD8.out,HX8.out,HO8.out⟩
        | false=>
         clear hly hag
         go_wp2
         go_meet
         case rel=>exact ⟨rfl,M2,O2,HS.out.mono (by omega),HD.out,HX.out,HO.out⟩
       case rest=>
       clear HS HD HX HO HKD HQ hly hag M2 O2
       obtain ⟨rfl,M3,O3,hS,hd,hX,hO⟩:=hcut
       have HS:=Lib.hid hS
       have HD:=Lib.hid hd
       have HX:=Lib.hid hX
       have HO:=Lib.hid hO
       have hth:=there_dead hd
       have HTH:=Lib.hid hth
       have hat:=hS.st.attr ((x.ino:Int),(x.gen:Int))
       have hLx:=lies_file (lies_of hX)
       have hagf:=aggFl (x.ino:Int) (x.gen:Int)
       clear hS hd hX hO hth
       go_wp2_with (first
        | ((with_reducible refine wpList_loadA hagf hLx ?_ ?_);rfl;go_frame)
        | fail)
       refine hat.mono ?_
       rintro e w8 ⟨⟨ak,av,an,ac,rfl,hAC⟩,hb8⟩
       obtain ⟨rfl,rfl,rfl,rfl⟩:ak=0∧av=0∧an=0∧ac=14:=by
        rcases hAC with ⟨j,h, -⟩|⟨-,h⟩
        ·rw [HTH.out] at h
         cases h
        ·exact h
       have haga:=aggAt 0 0 0
       have honea:=oneAt 0 0 0
       obtain ⟨w9,hw9⟩: ∃w9,w8.alloc (.cells (attrC 0 0 0) 60)=w9:=⟨_,rfl⟩
       have hb9:Below w8.heap.size w8 w9:=by rw [←hw9];exact (Below.refl _ _).alloc (Nat.le_refl _) _
       have hA9:w9.heap[w8.heap.size]?=some (.cells (attrC 0 0 0) 60 (0,0)):=by rw [←hw9];exact heap_alloc_at
       have hb79:=hb8.trans (hb9.mono hb8.size)
       have HS9:=Lib.hid (HS.out.below hb79)
       have HX9:=Lib.hid ((hb79.block _ (lt_of_block HX.out)).trans HX.out)
       have HA9:=Lib.hid hA9
       have hAO:¬ O3 w8.heap.size:=fun h=>by
        have h1:=HS.out.st.lt _ h
        have h2:=hb8.size
        omega
       have HAO:=Lib.hid hAO
       have hlt48:w4.heap.size<w8.heap.size:=Nat.lt_of_lt_of_le (lt_of_block HX.out) hb8.size
       have HLT:=Lib.hid hlt48
       clear hat hAC hb8 hb9 hA9 hb79 hAO hlt48 hLx
       go_upto_region 20 with (first
        | ((with_reducible refine wpList_storeA_new haga ?_ honea ?_ ?_ ?_);rfl;rfl;rfl;go_frame)
        | fail)
       simp only [hw9] at*
       clear hw9
       have hre:=HS9.out.st.read ((x.ino:Int),(x.gen:Int)) 0
       have hLx:=lies_file (lies_of HX9.out)
       go_wp2_with (first
        | ((with_reducible refine wpList_loadA hagf hLx ?_ ?_);rfl;go_frame)
        | fail)
       refine hre.mono ?_
       rintro e w10 ⟨⟨rt,rv,rc,rfl,hRC⟩,hb10⟩
       obtain ⟨rfl,rfl,rfl⟩:rt=emp∧rv=0∧rc=14:=by
        have hof:=of_dead HTH.out 2
        rcases hRC with ⟨h, -⟩|⟨-,⟨-,h1,h2,h3⟩|⟨h, -⟩⟩
        ·omega
        ·exact ⟨h1,h2,by rw [h3,hof]⟩
        ·rw [hof] at h
         cases h
       have HS10:=Lib.hid (HS9.out.below hb10)
       have HX10:=Lib.hid ((hb10.block _ (lt_of_block HX9.out)).trans HX9.out)
       have HA10:=Lib.hid ((hb10.block _ (lt_of_block HA9.out)).trans HA9.out)
       have hwr:=HS10.out.write (by omega) ((x.ino:Int),(x.gen:Int)) 0 txtX
       have hLx:=lies_file (lies_of HX10.out)
       clear hre hRC hb10
       go_wp2_with (first
        | ((with_reducible refine wpList_loadA hagf hLx ?_ ?_);rfl;go_frame)
        | fail)
       refine hwr.mono ?_
       rintro e w11 ⟨O11,hto,hc11⟩
       obtain ⟨rfl,hS11⟩:e=retT 0 14∧FTr wl s p 20 (40+4*k+2) 80 M3 O11 w11:=by
        rcases hc11 with ⟨c, -,hno,rfl,hS⟩|⟨v,M',hy, -⟩
        ·rw [write_dead HTH.out hno]
         exact ⟨rfl,hS⟩
        ·have h:=hy.of
         rw [of_dead HTH.out 2] at h
         cases h
       have HS11:=Lib.hid hS11
       have HX11:=Lib.hid (hto.mod.heap HX10.out HO.out)
       have hLa:=lies_of (hto.mod.heap HA10.out HAO.out)
       have HO11:Hid (¬ O11 w4.heap.size):=Lib.hid fun h=>(hto.new _ h).elim HO.out fun h=>by have:=lt_of_block HX10.out;omega
       rw [show retT 0 14= .returned (.tuple #[.int .u64 0, .int .i64 14]) from rfl]
       clear hwr hto hc11 hS11 hLx
       go_wp2_with (first
        | ((with_reducible refine wpList_loadA haga hLa ?_ ?_);rfl;go_frame)
        | ((with_reducible refine wpList_exec rfl (exec_buildA (vals:= []) ?_ built_zAt) ?_);rfl;go_frame)
        | ((with_reducible refine wpList_exec rfl (exec_neqS eqGAt eqZAt ?_ ?_ _) ?_);rfl;rfl;go_frame)
        | fail)
       go_roundw
       case rel=>exact ⟨k+1,M3,O11,by omega,by go_num,HS11.out.mono (by omega),HD.out,HX11.out,HO11.out⟩
       case measure=>simp [intOf];omega
      ·obtain rfl:k=xb.length:=by omega
       have hkl':¬ (xb.length:Int)<(xb.length:Int):=by omega
       have hl:=lives_any wr
       go_wp2_with fail
       refine hl.mono ?_
       rintro e w8 ⟨rfl,hb8⟩
       have HB8:=Lib.hid (HBL.out.trans ((HS.out.st.w.trans (hb8.mono HS.out.st.w.size)).mono HBL.out.size))
       clear hl hb8
       go_wp2
       go_ret
       exact ⟨rfl,HB8.out⟩
   ·have e0:((c:Int) !=0)=true:=by simp;omega
    have hl:=hlv w5
    clear hc0 hlv
    go_wp2_with fail
    refine hl.mono ?_
    rintro e w8 ⟨rfl,hb8⟩
    have HB8:=Lib.hid (HBL.out.trans ((HS5.out.st.w.trans (hb8.mono HS5.out.st.w.size)).mono HBL.out.size))
    clear hl hb8
    go_wp2
    go_ret
    exact ⟨rfl,HB8.out⟩
end Go.Proofs.YtjdbbnhnbdocbaaGreat
namespace Go.Proofs.YtjdbbnhnbdocbaaGreat
open Go.ChangeShapes Go.WideShapes Go.ChangeAt Go.ChangeMaps Go.RowKit Go.Tn Go.Joins
theorem Tryz.own:ownKnob Tryz.prog.godebug=none:=by kernel_rfl
theorem Tryz.laidOut:laidOutB Tryz.prog=true:=by kernel_rfl
set_option maxRecDepth 100000 in
theorem gone_lifted (os:Os) (started:os.Started) (H:Type) (enc:TypeId×Value→H):
  ReturnsInHanded {} Tryz.checked os 4 .any (Rows.fstoreGoneSpec.pre6 enc Tryz.prog Tryz.f4 Rows.fstoreGoneRow.domain false) (Rows.fstoreGoneSpec.post enc Tryz.prog Tryz.f4 false true false false):=by
 refine returnsInHanded_of_change (C:=Tryz.checked) Tryz.own started (by kernel_rfl) Tryz.func4
  (ChangeSpec.witness6 (enc:=enc) (C:=Tryz.checked) false ⟨#[], #[.slice none 0 0, .slice none 0 0, .string {data:= #[]}], []⟩ 8 (by kernel_rfl) (by kernel_rfl) (by kernel_rfl) (by kernel_rfl)) ?_
 intro W base args ds gs before hval0 hW hcnd _
 have hval: ∀(j:Nat) t v,Tryz.f4.params[j]?=some t→args[j]?=some v→Value.okWide Tryz.prog W .any base t v:=hval0
 have hW':=hW
 obtain ⟨p,q,hA0,hV,rfl,hfz,hnd⟩:=hW
 have hA:DataW.TrodAll enc Tryz.prog W 0 (fun _=>true) true Tryz.f4.params.toList args.toList ds p:=hA0
 rw [Tryz.params4] at hA hval
 obtain ⟨v0,vs0,d0,ds0,p0,q0,hargs,rfl,rfl,h0,r0⟩:=trodAll_cons hA
 obtain ⟨v1,vs1,d1,ds1,p1,q1,rfl,rfl,rfl,h1,r1⟩:=trodAll_cons r0
 obtain ⟨v2,vs2,d2,ds2,p2,q2,rfl,rfl,rfl,h2,r2⟩:=trodAll_cons r1
 obtain ⟨rfl,rfl,rfl⟩:=trodAll_nil r2
 obtain rfl:args= #[v0,v1,v2]:=by cases args;simp_all
 obtain ⟨rfl,rfl⟩:=trodVars_none hV
 obtain ⟨a0,len0,cap0,rfl⟩:=okWide_slice Tryz.underlying22 (hval 0 22 v0 rfl rfl)
 obtain ⟨a1,len1,cap1,rfl⟩:=okWide_slice Tryz.underlying22 (hval 1 22 v1 rfl rfl)
 obtain ⟨a2,rfl,rfl,rfl,w2⟩:=open_string Tryz.underlying9 (hval 2 9 v2 rfl rfl) h2
 have k0:=h0
 have lt0: ∀x∈p0,x.block<W.heap.size:=by obtain ⟨m,hm⟩:=k0;exact DataW.trod_lt m _ _ _ hm
 have k1:=h1
 have lt1: ∀x∈p1,x.block<W.heap.size:=by obtain ⟨m,hm⟩:=k1;exact DataW.trod_lt m _ _ _ hm
 obtain ⟨es0,hes0⟩:=dos_of h0
 obtain ⟨es1,hes1⟩:=dos_of h1
 clear hA0 hval0
 refine (gone_walk W _ _ es0 es1 hes0 hes1 a2 w2).mono fun e W' ⟨he,bel⟩=> ?_
 subst he
 exact ⟨_,rfl,_,_,_, [],_, [],hW',trodAll_mk1 (shut_bool Tryz.underlying4 _),(trodAll_cons_mk (Below.trod Tryz.laidOut (by kernel_rfl) (of_decide_eq_true (by kernel_rfl)) k0 bel lt0) (trodAll_cons_mk (Below.trod Tryz.laidOut (by kernel_rfl) (of_decide_eq_true (by kernel_rfl)) k1 bel lt1) (trodAll_cons_mk (shut_string Tryz.underlying9 w2) trodAll_mk0))),rfl,bel.frame _,fun h=>by cases h⟩
theorem gone_holds:Rows.FstoreGoneSaid:=
 OpenClaim.holds_of_wide 4 Tryz.f4 rfl rfl rfl rfl rfl rfl rfl ⟨rfl,rfl,rfl,rfl,rfl⟩ rfl rfl rfl rfl rfl (by kernel_rfl) Tryz.func4 (by kernel_rfl)
  (of_decide_eq_true (by kernel_rfl)) (by unfold Func.isWrapper;first|(rw [if_pos (by decide+kernel)];kernel_rfl)|(rw [if_neg (by decide+kernel)];exact ⟨rfl,rfl⟩))
  (fun os started H enc _=>gone_lifted os started H enc)
end Go.Proofs.YtjdbbnhnbdocbaaGreat
