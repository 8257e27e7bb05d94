import Derived.Test.YtjdbbnhnbdocbaaGreatMgGon41
import Derived.WalkKit
import Derived.ProofKit
import Derived.OpenShut
import Derived.ShutString
import Derived.ChangeOld
import Derived.Below
import Derived.Lib.SmallJoins
import Derived.Test.YtjdbbnhnbdocbaaGreatMgGon34
import Derived.Test.YtjdbbnhnbdocbaaGreatMgGon40
namespace Go.Proofs.YtjdbbnhnbdocbaaGreat
open Go.RowKit Go.Tn Go.Tn.Bt Go.Tn.Lp Go.Tn.Dk Go.Tn.Ino Go.Tn.Dr Go.Tn.Fm Go.Tn.Names
def txtA:ByteArray:={data:= #[97]}
def txtH:ByteArray:={data:= #[104,101,108,108,111]}
theorem txtA_name:isName (bs txtA)=true:=by decide+kernel
theorem of_at {M:Sm} {j g kind:Nat} (h1:1≤j) (h2:j≤40) (hg:(M.N j).gen=g) (hk:(M.N j).kind=kind) (h0:kind≠0):M.of ((j:Int),(g:Int)) kind=(j,0):=by
 have hth:M.there ((j:Int),(g:Int))=some j:=by
  unfold Sm.there
  simp only [Int.toNat_natCast]
  rw [if_pos ⟨by omega,by omega,by rw [hk];exact h0,by rw [hg]⟩]
 unfold Sm.of
 rw [hth]
 simp only
 rw [if_pos hk]
theorem root_of:Sm.root.of (1,1) 1=(1,0):=of_at (j:=1) (g:=1) (by decide) (by decide) rfl rfl (by decide)
theorem root_may:Sm.root.may 2:=⟨rfl,by decide⟩
theorem root_fresh {j:Nat} (h:FreshAt Sm.root j):j=2:=by
 obtain ⟨h1,h2,h3,h4⟩:=h
 have hn1:j≠1:=fun e=>by
  rw [e] at h3
  have h5:(Sm.root.N 1).kind=0:=h3.1
  have h6:(Sm.root.N 1).kind=1:=rfl
  omega
 by_cases hj:2<j
 ·exact absurd root_may (h4 2 (by decide) hj)
 ·omega
theorem create_root {N c:Nat} (hN:46≤N) (h:CreateNo Sm.root N (1,1) txtA 2 c):False:=by
 have hL:(Sm.root.N (Sm.root.of (1,1) 1).1).L= []:=by rw [root_of];rfl
 cases h with
 | name h=>rw [txtA_name] at h;cases h
 | kind _ _ h=>exact h rfl
 | of _ _ h=>rw [root_of] at h;exact h rfl
 | there y _ _ _ h=>rw [hL] at h;cases h
 | many _ _ _ _ h=>rw [hL] at h;exact absurd h (by decide)
 | none _ _ _ _ h=>exact h 2 (by decide) (by decide) root_may
 | full i R _ _ _ _ _ _ hR hs=>
  rw [root_of] at hs
  have hl:=hR.len
  rw [hL] at hl
  obtain ⟨k,T1,V1,P1,h1,h2,h3,h4⟩:=hs
  rw [dirB_len] at h1
  have hl:R.length≤0+1:=hl
  obtain rfl:k=0:=by omega
  rw [firstW_zero,Fm.upd_same] at h2
  have h5:=h4 45 (by omega)
  rw [h2.T,takenP_iff] at h5
  rcases h5 with h5|⟨j, -,h5⟩
  ·omega
  ·obtain ⟨a,ha⟩:=List.mem_iff_getElem?.1 h5
   exact (h2.has j a 45 ha).1 (by decide) (root_blk j a)
structure One (M:Sm):Prop where
 n2:M.N 2=Nd.new 2 1
 blk: ∀j k,(M.N j).blk k≠none→j=1∧k=0
theorem one_of {j gn:Nat} {M:Sm} (h:CreateYes Sm.root (1,1) txtA 2 j gn M):j=2∧gn=1∧One M:=by
 obtain rfl:=root_fresh h.fresh
 have hg:gn=1:=h.gen
 subst hg
 obtain ⟨R,hR,hM⟩:=h.N
 rw [root_of] at hR hM
 have hl:=hR.len
 have hl:R.length≤0+1:=hl
 refine ⟨rfl,rfl,⟨by rw [hM,Fm.upd_at];rfl,fun j k hb=> ?_⟩⟩
 rw [hM] at hb
 by_cases h2:j=2
 ·rw [h2,Fm.upd_at,new_blk] at hb
  exact absurd rfl hb
 ·rw [Fm.upd_ne _ _ h2] at hb
  by_cases h1:j=1
  ·refine ⟨h1,?_⟩
   rw [h1,Fm.upd_at] at hb
   unfold Nd.blk at hb
   rw [if_pos (by rfl)] at hb
   apply Classical.byContradiction
   intro hk
   exact hb (List.getElem?_eq_none (by show (dirB R).length≤k;rw [dirB_len];omega))
  ·rw [Fm.upd_ne _ _ h1,root_blk] at hb
   exact absurd rfl hb
theorem one_at {M:Sm} (h:One M):M.of (2,1) 2=(2,0):=of_at (j:=2) (g:=1) (by decide) (by decide) (by rw [h.n2];rfl) (by rw [h.n2];rfl) (by decide)
theorem write_one {N c:Nat} {M:Sm} (hN:46≤N) (h1:One M) (hr: ∃V,Rep N V M) (h:WriteNo M N (2,1) 1 txtH c):False:=by
 obtain ⟨V,hr⟩:=hr
 cases h with
 | out h=>omega
 | big _ _ h=>exact absurd h (by decide)
 | of _ _ _ h=>rw [one_at h1] at h;exact h rfl
 | full _ _ _ _ _ _ hf=>
  have hp: ∀p,42≤p→p<N→(M.P 1)[0]?=some p:=fun p hp hpN=>by
   rcases takenP_iff.1 (hf p hpN) with h|⟨j, -,h⟩
   ·omega
   ·obtain ⟨a,ha⟩:=List.mem_iff_getElem?.1 h
    obtain ⟨rfl,rfl⟩:=h1.blk j a ((hr.mid.has j a p ha).1 (by omega))
    exact ha
  have e1:=hp 42 (by decide) (by omega)
  have e2:=hp 43 (by decide) (by omega)
  rw [e1] at e2
  cases e2
theorem wrote_one {M M':Sm} {v:Nat} (h1:One M) (h:WriteYes M (2,1) 1 txtH v M'):v=2∧ ∀t u c,ReadC M' (2,1) 1 t u c→t=txtH∧u=2∧c=0:=by
 have hv:=h.ver
 rw [one_at h1] at hv
 have hv:v=(M.N 2).ver+1:=hv
 rw [h1.n2] at hv
 have hN:=h.N
 rw [one_at h1] at hN
 have hN2:M'.N 2={Nd.new 2 1 with D:=(Nd.new 2 1).D.set 1 txtH,ver:=2}:=by
  rw [hN]
  show Fm.upd M.N 2 _ 2=_
  rw [Fm.upd_at,h1.n2]
  rfl
 have hof:M'.of (2,1) 2=(2,0):=of_at (j:=2) (g:=1) (by decide) (by decide) (by rw [hN2];rfl) (by rw [hN2];rfl) (by decide)
 refine ⟨hv,fun t u c hc=> ?_⟩
 rcases hc with ⟨hc, -⟩|⟨-,⟨hc, -⟩|⟨-,ht,hu,hc⟩⟩
 ·omega
 ·rw [hof] at hc
  exact absurd rfl hc
 ·rw [hof] at ht hu
  have ht:t=(((M'.N 2).D)[1]?).getD emp:=ht
  have hu:u=(M'.N 2).ver:=hu
  rw [hN2] at ht hu
  exact ⟨ht,hu,hc⟩
set_option maxRecDepth 20000 in
set_option maxHeartbeats 4000000 in
theorem lives_any (w:World):Calls Tryz.prog 22 #[] w fun e w'=>e= .returned (.bool true)∧Below w.heap.size w w':=by
 have hnd:=newd_any w 90 (by decide) (by decide)
 rw [show ((90:Nat):Int)=90 from rfl] at hnd
 go_enter Tryz.func22,Tryz.ntmps22
 go_wp2_with fail
 refine hnd.mono ?_
 rintro e w1 ⟨p,FD,rfl,hD,hb1,hF⟩
 have hop:=fnew_any (n:=20) hD hb1 hF (by decide) (by decide) (by decide) (by decide)
 rw [show ((20:Nat):Int)=20 from rfl] at hop
 clear hnd hD hb1 hF
 go_wp2_with fail
 refine hop.mono ?_
 rintro e w2 ⟨s,O2,rfl,hS2, -⟩
 have hro:=froot_any w2
 have HS2:=Lib.hid hS2
 clear hop hS2
 go_wp2_with fail
 refine hro.mono ?_
 rintro e w3 ⟨rfl,hb3⟩
 have HS3:=Lib.hid (HS2.out.below hb3)
 have hcr:=HS3.out.create (by decide) (1,1) txtA 2
 clear hro hb3
 go_wp2_with fail
 refine hcr.mono ?_
 rintro e w4 ⟨O4, -,⟨c, -,hno, -⟩|⟨j,gn,M1,hy,he,hS4⟩⟩
 ·exact (create_root (by decide) hno).elim
 ·obtain ⟨rfl,rfl,h1⟩:=one_of hy
  have he:e= .returned (.tuple #[.agg (flC 2 1), .int .i64 0]):=he
  subst he
  have hag:AggT Tryz.prog 33 (flC 2 1).size:=aggFl 2 1
  have hone:(flC 2 1).all (·.oneCell')=true:=oneF2 2 1
  obtain ⟨w5,hw5⟩: ∃w5,w4.alloc (.cells (flC 2 1) 33)=w5:=⟨_,rfl⟩
  have hb5:Below w4.heap.size w4 w5:=by rw [←hw5];exact (Below.refl _ _).alloc (Nat.le_refl _) _
  have hX5:w5.heap[w4.heap.size]?=some (.cells (flC 2 1) 33 (0,0)):=by rw [←hw5];exact heap_alloc_at
  have hL5:=lies_of hX5
  have HS4:=Lib.hid hS4
  have HS5:=Lib.hid (hS4.below hb5)
  have HX5:=Lib.hid hX5
  have H1:=Lib.hid h1
  have hwr:=HS5.out.write (by decide) (2,1) 1 txtH
  clear hcr hS4 hb5 hX5 h1 hy
  go_upto_region 6 with (first
   | ((with_reducible refine wpList_storeA_new hag ?_ hone ?_ ?_ ?_);rfl;rfl;rfl;go_frame)
   | fail)
  simp only [hw5] at*
  clear hw5
  go_wp2_with (first
   | ((with_reducible refine wpList_loadA hag hL5 ?_ ?_);rfl;go_frame)
   | fail)
  refine hwr.mono ?_
  rintro e w6 ⟨O6,hto,⟨c, -,hno, -⟩|⟨v,M2,hy,he,hS6⟩⟩
  ·exact (write_one (by decide) H1.out HS5.out.rep hno).elim
  ·obtain ⟨rfl,hrd⟩:=wrote_one H1.out hy
   have he:e= .returned (.tuple #[.int .u64 2, .int .i64 0]):=he
   subst he
   have hX6:=hto.mod.heap HX5.out (fun ho=>absurd (HS4.out.lt _ ho) (Nat.lt_irrefl _))
   have hL6:=lies_of hX6
   have HRD:=Lib.hid hrd
   have HS6:=Lib.hid hS6
   have hre:=HS6.out.read (2,1) 1
   clear hwr hy hto hS6 hrd hX6 hL5
   go_wp2_with (first
    | ((with_reducible refine wpList_loadA hag hL6 ?_ ?_);rfl;go_frame)
    | fail)
   refine hre.mono ?_
   rintro e w7 ⟨⟨t,v,c,rfl,hrc⟩,hb7⟩
   obtain ⟨rfl,rfl,rfl⟩:=HRD.out t v c hrc
   have HB7:=Lib.hid (HS6.out.w.trans (hb7.mono HS6.out.w.size))
   have hte:(txtH.toList== [104,101,108,108,111])=true:=by rw [bs_eq];decide+kernel
   clear hre hrc hb7
   go_wp2
   go_ret
   exact ⟨rfl,HB7.out⟩
end Go.Proofs.YtjdbbnhnbdocbaaGreat
namespace Go.Proofs.YtjdbbnhnbdocbaaGreat
open Go.ChangeShapes Go.WideShapes Go.ChangeAt Go.RowKit Go.Tn Go.Joins Go.Tn.Bt Go.Tn.Lp Go.Tn.Dk Go.Tn.Ino Go.Tn.Dr Go.Tn.Fm Go.Tn.Names
structure DoX where
 kind:Int
 num:Int
 f:Int×Int
 g:Int×Int
 s:ByteArray
 t:ByteArray
 keep:List Int
def enDoX (y:DoX×Sv):List Value:= [.int .i64 y.1.kind, .int .i64 y.1.num, .int .i64 y.1.f.1, .int .i64 y.1.f.2, .int .i64 y.1.g.1, .int .i64 y.1.g.2, .string y.1.s, .string y.1.t,sv y.2]
def doC (y:DoX×Sv):Array Value:=(enDoX y).toArray
structure DoX.fine (w:World) (y:DoX×Sv):Prop where
 keep:LSl enI 1 w (sv y.2) y.1.keep
 kind: -9223372036854775808≤y.1.kind∧y.1.kind<9223372036854775808
 num: -9223372036854775808≤y.1.num∧y.1.num<9223372036854775808
 s:y.1.s.size≤maxLen
 t:y.1.t.size≤maxLen
theorem DoX.fine.below {w w':World} {y:DoX×Sv} (h:DoX.fine w y) (hb:Below w.heap.size w w'):DoX.fine w' y:=⟨h.keep.below hb,h.kind,h.num,h.s,h.t⟩
theorem elDo:ElT Tryz.prog 22 36 9 enDoX:=⟨Tryz.underlying22,by kernel_rfl,by decide,fun _=>rfl,fun x u hu=>by
 unfold enDoX sv at hu
 simp only [List.mem_cons,List.not_mem_nil,or_false] at hu
 rcases hu with rfl|rfl|rfl|rfl|rfl|rfl|rfl|rfl|rfl<;>rfl⟩
theorem aggDo (y:DoX×Sv):AggT Tryz.prog 36 (doC y).size:=⟨⟨_,Tryz.underlying36,rfl⟩,by kernel_rfl⟩
theorem oneDo (y:DoX×Sv):(doC y).all (·.oneCell')=true:=by
 unfold doC enDoX sv
 simp [Value.oneCell']
def DosX (w:World) (v:Value) (ds:List DoX):Prop:= ∃xs:List (DoX×Sv),xs.map (·.1)=ds∧LSl enDoX 9 w v xs∧ ∀x∈xs,DoX.fine w x
theorem DosX.below {w w':World} {v:Value} {ds:List DoX} (h:DosX w v ds) (hb:Below w.heap.size w w'):DosX w' v ds:=by
 obtain ⟨xs,h1,h2,h3⟩:=h
 exact ⟨xs,h1,h2.below hb,fun x hx=>(h3 x hx).below hb⟩
theorem flatDo:flat Tryz.prog 6 36=some [3,3,3,3,3,3,9,9,34]:=by kernel_rfl
theorem cellsDo:Tryz.prog.cellsOf 36= [3,3,3,3,3,3,9,9,34].length:=by kernel_rfl
theorem flatI:flat Tryz.prog 1 3=some [3]:=by kernel_rfl
theorem cellsI:Tryz.prog.cellsOf 3= [3].length:=by kernel_rfl
section
variable {H:Type} {enc:TypeId×Value→H} {w:World} {base:Nat} {spare:Nat→Bool} {held:Bool}
theorem ints_of {ao:Option Addr} {n cap:Nat} {x:DataW H} {ps:List MemPlace} (h:DataW.Trod enc Tryz.prog w base spare held 34 (.slice ao n cap) x ps): ∃bs:List Int,LSl enI 1 w (.slice ao n cap) bs:=by
 rcases open_flat Tryz.underlying34 flatI cellsI (by decide) h ⟨_,_,_,rfl⟩ with hv|⟨b,off,spot,len,cap',hv,hl,hm,hin,hc⟩
 ·cases hv
  exact ⟨[],LSl.nil w⟩
 ·cases hv
  have hex: ∀i:Nat, ∃z:Int,i<n→w.cell? ⟨b,off+i,none⟩=some (.int .i64 z):=fun i=>by
   by_cases hi:i<n
   ·obtain ⟨c,h1,h2⟩:=hc i hi 0 3 rfl
    obtain ⟨z,rfl,_⟩:=h2.int Tryz.underlying3
    exact ⟨z,fun _=>by simpa using h1⟩
   ·exact ⟨0,fun h=>absurd h hi⟩
  have hlen:((List.range n).map fun i=>Classical.choose (hex i)).length=n:=by simp
  refine ⟨(List.range n).map fun i=>Classical.choose (hex i),_,cap,by rw [hlen],by rw [hlen];exact hl,hm,fun h0=> ?_⟩
  rw [hlen] at h0
  refine ⟨b,off,by rw [(hin h0).1],(hin h0).2,fun i y hi=> ?_⟩
  have hlt:i<n:=by
   have:=(List.getElem?_eq_some_iff.1 hi).1
   rwa [hlen] at this
  have hy:Classical.choose (hex i)=y:=by simpa [hlt] using hi
  rw [←hy]
  intro j hj
  have hj0:j=0:=by simpa using hj
  subst hj0
  have:=Classical.choose_spec (hex i) hlt
  simpa using this
theorem CellOk.slice {t e:TypeId} (ht:Tryz.prog.underlying t=some (.slice e)) {c:Value} (h:CellOk enc Tryz.prog w base spare held t c): ∃a n cap,c= .slice a n cap∧ ∃x ps,DataW.Trod enc Tryz.prog w base spare held t (.slice a n cap) x ps:=by
 obtain ⟨m,⟨x,ps⟩,h⟩:=h
 have hsh: ∃a n cap,c= .slice a n cap:=by
  rcases Go.Deep.open_slice ht h with ⟨hcs,_⟩|⟨⟨b,off,spot⟩,len,cap,m,n,D,Pl,hcs,_⟩
  ·exact ⟨_,_,_,by simpa using hcs⟩
  ·exact ⟨_,_,_,by simpa using hcs⟩
 obtain ⟨a,n,cap,rfl⟩:=hsh
 exact ⟨a,n,cap,rfl,x,ps,m,h⟩
theorem dos_of {ao:Option Addr} {n cap:Nat} {x:DataW H} {ps:List MemPlace} (h:DataW.Trod enc Tryz.prog w base spare held 22 (.slice ao n cap) x ps): ∃ds:List DoX,DosX w (.slice ao n cap) ds:=by
 rcases open_flat Tryz.underlying22 flatDo cellsDo (by decide) h ⟨_,_,_,rfl⟩ with hv|⟨b,off,spot,len,cap',hv,hl,hm,hin,hc⟩
 ·cases hv
  exact ⟨[], [],rfl,LSl.nil w,fun x hx=>by cases hx⟩
 ·cases hv
  have hex: ∀i:Nat, ∃y:DoX×Sv,i<n→Lies w b (off+i*9) (enDoX y).toArray∧DoX.fine w y:=fun i=>by
   by_cases hi:i<n
   ·obtain ⟨c0,h0,k0⟩:=hc i hi 0 3 rfl
    obtain ⟨z0,rfl,hz0⟩:=k0.int Tryz.underlying3
    obtain ⟨c1,h1,k1⟩:=hc i hi 1 3 rfl
    obtain ⟨z1,rfl,hz1⟩:=k1.int Tryz.underlying3
    obtain ⟨c2,h2,k2⟩:=hc i hi 2 3 rfl
    obtain ⟨z2,rfl,hz2⟩:=k2.int Tryz.underlying3
    obtain ⟨c3,h3,k3⟩:=hc i hi 3 3 rfl
    obtain ⟨z3,rfl,hz3⟩:=k3.int Tryz.underlying3
    obtain ⟨c4,h4,k4⟩:=hc i hi 4 3 rfl
    obtain ⟨z4,rfl,hz4⟩:=k4.int Tryz.underlying3
    obtain ⟨c5,h5,k5⟩:=hc i hi 5 3 rfl
    obtain ⟨z5,rfl,hz5⟩:=k5.int Tryz.underlying3
    obtain ⟨c6,h6,k6⟩:=hc i hi 6 9 rfl
    obtain ⟨z6,rfl,hz6⟩:=k6.string Tryz.underlying9
    obtain ⟨c7,h7,k7⟩:=hc i hi 7 9 rfl
    obtain ⟨z7,rfl,hz7⟩:=k7.string Tryz.underlying9
    obtain ⟨ca,ha,ka⟩:=hc i hi 8 34 rfl
    obtain ⟨a5,n5,cp5,rfl,x5,p5,t5⟩:=CellOk.slice Tryz.underlying34 ka
    obtain ⟨zs,hz⟩:=ints_of t5
    have b0:=wf_i64_bounds hz0
    have b1:=wf_i64_bounds hz1
    refine ⟨(⟨z0,z1,(z2,z3),(z4,z5),z6,z7,zs⟩,(a5,n5,cp5)),fun _=>⟨fun j hj=> ?_,⟨hz,⟨b0.1,by simp only;omega⟩,⟨b1.1,by simp only;omega⟩,hz6,hz7⟩⟩⟩
    have hj5:j<9:=by simpa [enDoX] using hj
    match j,hj5 with
    | 0,_=>exact h0
    | 1,_=>exact h1
    | 2,_=>exact h2
    | 3,_=>exact h3
    | 4,_=>exact h4
    | 5,_=>exact h5
    | 6,_=>exact h6
    | 7,_=>exact h7
    | 8,_=>exact ha
   ·exact ⟨(⟨0,0,(0,0),(0,0),ByteArray.empty,ByteArray.empty, []⟩,(none,0,0)),fun h=>absurd h hi⟩
  have hlen:((List.range n).map fun i=>Classical.choose (hex i)).length=n:=by simp
  have hget: ∀i y,((List.range n).map fun i=>Classical.choose (hex i))[i]?=some y→i<n∧Classical.choose (hex i)=y:=fun i y hi=>by
   have hlt:i<n:=by
    have:=(List.getElem?_eq_some_iff.1 hi).1
    rwa [hlen] at this
   exact ⟨hlt,by simpa [hlt] using hi⟩
  refine ⟨((List.range n).map fun i=>Classical.choose (hex i)).map (·.1),(List.range n).map fun i=>Classical.choose (hex i),rfl,⟨_,cap,by rw [hlen],by rw [hlen];exact hl,hm,fun h0=> ?_⟩,fun y hy=> ?_⟩
  ·rw [hlen] at h0
   refine ⟨b,off,by rw [(hin h0).1],(hin h0).2,fun i y hi=> ?_⟩
   obtain ⟨hlt,hy⟩:=hget i y hi
   rw [←hy]
   exact (Classical.choose_spec (hex i) hlt).1
  ·obtain ⟨i,hi⟩:=List.mem_iff_getElem?.1 hy
   obtain ⟨hlt,hy⟩:=hget i y hi
   rw [←hy]
   exact (Classical.choose_spec (hex i) hlt).2
end
theorem doC_s (y:DoX×Sv) (t:ByteArray):(doC y).setIfInBounds 6 (.string t)=doC ({y.1 with s:=t},y.2):=rfl
theorem doC_t (y:DoX×Sv) (t:ByteArray):(doC y).setIfInBounds 7 (.string t)=doC ({y.1 with t:=t},y.2):=rfl
set_option maxRecDepth 20000 in
set_option maxHeartbeats 4000000 in
theorem few_any (w:World) (v:Value) (ds:List DoX) (h:DosX w v ds) (n:Nat) (hn:n≤100):Calls Tryz.prog 10 #[v, .int .i64 n] w
  fun e w'=> ∃v' es,e= .returned v'∧DosX w' v' es∧es.length≤n∧(∀y∈es,y.s.size≤70∧y.t.size≤20)∧Below w.heap.size w w':=by
 obtain ⟨xs, -,hxL,hxD⟩:=h
 obtain ⟨ao,ca,rfl,x1,x2,x3⟩:=hxL
 unfold maxLen at x2
 have hb63:(xs.length:Int)≤9223372036854775807:=by omega
 have hn100:(n:Int)≤100:=by omega
 have HXD:=Lib.hid hxD
 have HX3:=Lib.hid x3
 clear hxD x3
 go_enter Tryz.func10,Tryz.ntmps10
 go_wp2
 go_loopw [5,6] (fun ov iv wi=> ∃(k:Nat) (ys:List (DoX×Sv)),k≤xs.length∧k≤n∧iv= .int .i64 k∧Below w.heap.size w wi∧LOut enDoX 9 36 w.heap.size wi ov ys∧ys.length=k∧ ∀y∈ys,DoX.fine w y∧y.1.s.size≤70∧y.1.t.size≤20) (fun _ iv _=>xs.length-(intOf iv).toNat)
 case atStart=>exact ⟨0, [],Nat.zero_le _,Nat.zero_le _,rfl,Below.refl _ _,LOut.nil (Nat.le_refl _),rfl,fun y hy=>by cases hy⟩
 case round=>
  obtain ⟨k,ys,hk,hkn,rfl,hb,hO,hyl,hyf⟩:=hrel
  have HB:=Lib.hid hb
  have HO:=Lib.hid hO
  have HYL:=Lib.hid hyl
  have HYF:=Lib.hid hyf
  clear hb hO hyl hyf
  by_cases hin:k<xs.length∧k<n
  ·obtain ⟨hkl,hkm⟩:=hin
   have hd1:decide ((k:Int)<(xs.length:Int))=true:=decide_eq_true (by omega)
   have hkl':(k:Int)<(xs.length:Int):=by omega
   have hkm':(k:Int)<(n:Int):=by omega
   obtain ⟨x,hx⟩: ∃x,xs[k]?=some x:=⟨_,List.getElem?_eq_getElem hkl⟩
   obtain ⟨b4,o4,rfl,hb4,hc4⟩:=HX3.out (by omega)
   have hlx:Lies wr b4 (o4+k*9) (doC x):=(hc4 k x hx).below' HB.out hb4
   have hfx:=HXD.out x (List.mem_of_getElem? hx)
   have hag:=aggDo x
   have hon:=oneDo x
   have hsz9:(doC x).size=9:=rfl
   obtain ⟨w2,hw2⟩: ∃w2,wr.alloc (.cells (doC x) 36)=w2:=⟨_,rfl⟩
   have hb2:Below wr.heap.size wr w2:=by rw [←hw2];exact (Below.refl _ _).alloc (Nat.le_refl _) _
   have hX2:w2.heap[wr.heap.size]?=some (.cells (doC x) 36 (0,0)):=by rw [←hw2];exact heap_alloc_at
   have q6:w2.cell? ⟨wr.heap.size,6,none⟩=some (.string x.1.s):=cell_of hX2 rfl
   have q7:w2.cell? ⟨wr.heap.size,7,none⟩=some (.string x.1.t):=cell_of hX2 rfl
   have f6:w2.frozen? ⟨wr.heap.size,6,none⟩=false:=free_of hX2
   have hsh:=short_any w2.drew x.1.s 70 hfx.s (by decide)
   rw [show ((70:Nat):Int)=70 from rfl] at hsh
   have hsh2:=short_any w2.drew x.1.t 20 hfx.t (by decide)
   rw [show ((20:Nat):Int)=20 from rfl] at hsh2
   have HFX:=Lib.hid hfx
   have HB2:=Lib.hid hb2
   have HX2:=Lib.hid hX2
   clear hx hc4 hfx hb2 hX2
   go_upto_region 6 with (first
    | ((with_reducible refine wpList_loadA hag hlx ?_ ?_);rfl;go_frame)
    | ((with_reducible refine wpList_storeA_new hag ?_ hon ?_ ?_ ?_);(rw [hsz9];rfl);rfl;rfl;go_frame)
    | fail)
   simp only [hw2] at*
   clear hw2 hlx
   have hS:w2.drew.cell? ⟨wr.heap.size,6,none⟩=some (.string x.1.s)∧w2.drew.cell? ⟨wr.heap.size,7,none⟩=some (.string x.1.t):=⟨q6,q7⟩
   refine wp_region_x (fun w'=>w'.cell? ⟨wr.heap.size,6,none⟩=some (.string x.1.s)∧w'.cell? ⟨wr.heap.size,7,none⟩=some (.string x.1.t)) [(0,1),(1,0),(3,1),(4,0),(2,2),(6,1),(5,2),(7,3),(8,1),(9,3)] (by kernel_rfl) (by kernel_rfl) (by intro d v c a w h;cases d<;>exact h) ?_
   iterate 1 (refine x_take rfl (fun K hK=> ?_);go_simp;refine hK _ ?_;clear hK K)
   refine x_read rfl hS (fun w' h=>exec_load1 ⟨⟨_,Tryz.underlying9,rfl⟩⟩ rfl h.1) ?_
   iterate 1 (refine x_take rfl (fun K hK=> ?_);go_simp;refine hK _ ?_;clear hK K)
   refine x_read rfl hS (fun w' h=>exec_load1 ⟨⟨_,Tryz.underlying9,rfl⟩⟩ rfl h.2) ?_
   refine x_show' rfl (fun K hK=> ?_)
   go_simp
   refine hsh.mono ?_
   rintro e wt ⟨t,rfl, -,ht,hw⟩
   obtain rfl:=hw.symm
   refine hK _ _ hS ?_
   clear hK K hw hsh
   iterate 1 (refine x_take rfl (fun K hK=> ?_);go_simp;refine hK _ ?_;clear hK K)
   refine x_show' rfl (fun K hK=> ?_)
   go_simp
   refine hsh2.mono ?_
   rintro e wt ⟨u,rfl, -,hu,hw⟩
   obtain rfl:=hw.symm
   refine hK _ _ hS ?_
   clear hK K hw hsh2 hS
   refine x_skip rfl (exec_store1 ⟨⟨_,Tryz.underlying9,rfl⟩⟩ (by kernel_rfl) rfl rfl rfl q6 f6) ?_
   go_simp
   have q7':((w2.drew).setCell ⟨wr.heap.size,6,none⟩ (.string t)).cell? ⟨wr.heap.size,7,none⟩=some (.string x.1.t):=cell_of (o:=7) (heap_setCell_at HX2.out) rfl
   have f7':((w2.drew).setCell ⟨wr.heap.size,6,none⟩ (.string t)).frozen? ⟨wr.heap.size,7,none⟩=false:=free_of (heap_setCell_at HX2.out)
   iterate 1 (refine x_take rfl (fun K hK=> ?_);go_simp;refine hK _ ?_;clear hK K)
   refine x_skip rfl (exec_store1 ⟨⟨_,Tryz.underlying9,rfl⟩⟩ (by kernel_rfl) rfl rfl rfl q7' f7') ?_
   go_simp
   refine x_nil ?_
   clear q7' f7'
   have hm3:=(((Mod.refl (fun b=>b=wr.heap.size) w2).setCell ⟨wr.heap.size,6,none⟩ (.string t) (fun _=>rfl)).setCell ⟨wr.heap.size,7,none⟩ (.string u) (fun _=>rfl)).drew
   have hX3:((w2.setCell ⟨wr.heap.size,6,none⟩ (.string t)).setCell ⟨wr.heap.size,7,none⟩ (.string u)).drew.heap[wr.heap.size]?=some (.cells (doC ({x.1 with s:=t,t:=u},x.2)) 36 (0,0)):=by
    show ((w2.setCell ⟨wr.heap.size,6,none⟩ (.string t)).setCell ⟨wr.heap.size,7,none⟩ (.string u)).heap[wr.heap.size]?=_
    rw [heap_setCell_at (heap_setCell_at HX2.out),doC_s,doC_t]
   have hb3:Below wr.heap.size wr ((w2.setCell ⟨wr.heap.size,6,none⟩ (.string t)).setCell ⟨wr.heap.size,7,none⟩ (.string u)).drew:=HB2.out.trans (hm3.below HB2.out.size fun y hy e=>by have e:y=wr.heap.size:=e;omega)
   have hfy:DoX.fine w ({x.1 with s:=t,t:=u},x.2):=⟨HFX.out.keep,HFX.out.kind,HFX.out.num,(by show t.size≤maxLen;unfold maxLen;omega),by show u.size≤maxLen;unfold maxLen;omega⟩
   obtain ⟨y,hy⟩: ∃y:DoX×Sv,({x.1 with s:=t,t:=u},x.2)=y:=⟨_,rfl⟩
   have hyd:y.1.s.size≤70∧y.1.t.size≤20:=by rw [←hy];exact ⟨ht,hu⟩
   rw [hy] at hX3 hfy
   have HFY:=Lib.hid hfy
   have HB3:=Lib.hid hb3
   have HYD:=Lib.hid hyd
   have hL3:=lies_of hX3
   clear hm3 hX3 hb3 hfy hyd hy q6 q7 f6 ht hu HB2 HX2 HFX
   generalize ((w2.setCell ⟨wr.heap.size,6,none⟩ (.string t)).setCell ⟨wr.heap.size,7,none⟩ (.string u)).drew=w3 at*
   have hag2:=aggDo y
   obtain ⟨a5,n5,c5,rfl⟩:=HO.out.shape
   have hO3:=HO.out.below HB3.out
   have hol:ys.length≤1000000000:=by rw [HYL.out];omega
   have hsz2:(doC y).size=9:=rfl
   go_wp2_with (first
    | ((with_reducible refine wpList_loadA hag2 hL3 ?_ ?_);rfl;go_frame)
    | ((with_reducible refine wpList_exec rfl (exec_buildSliceA (k:=9) (cells:=doC y) Tryz.underlying22 (by kernel_rfl) (by omega) (by omega) rfl ?_) ?_);rfl;go_frame)
    | ((with_reducible refine wpList_append1Y elDo hO3 y hol ?_ ?_ ?_ ?_);rfl;rfl;rfl;(intro v9 w9 hO9 hm9 hv9;have HO9:=Lib.hid hO9;have HM9:=Lib.hid hm9;clear hO9 hm9 hv9);go_frame)
    | fail)
   have hb9:Below w.heap.size w w9:=(HB.out.trans (HB3.out.mono HB.out.size)).trans (HM9.out.below (Nat.le_trans HB.out.size HB3.out.size) fun z hz e=>by have:=HO.out.lo z e;omega)
   have HB9:=Lib.hid hb9
   have hyf: ∀z∈ys++ [y],DoX.fine w z∧z.1.s.size≤70∧z.1.t.size≤20:=fun z hz=>by
    rcases List.mem_append.1 hz with hz|hz
    ·exact HYF.out z hz
    ·rw [List.mem_singleton.1 hz]
     exact ⟨HFY.out,HYD.out⟩
   have HYF2:=Lib.hid hyf
   clear hb9 hyf hO3
   go_roundw
   case rel=>exact ⟨k+1,ys++ [y],by omega,by omega,by go_num,HB9.out,HO9.out,by rw [List.length_append,HYL.out];rfl,HYF2.out⟩
   case measure=>simp [intOf];omega
  ·have hfin: ∃v' es,u5=v'∧DosX wr v' es∧es.length≤n∧(∀y∈es,y.s.size≤70∧y.t.size≤20):=by
    refine ⟨_,ys.map (·.1),rfl,⟨ys,rfl,HO.out.sl elDo.len,fun y hy=>(HYF.out y hy).1.below HB.out⟩,by rw [List.length_map,HYL.out];exact hkn,fun z hz=> ?_⟩
    obtain ⟨y,hy,rfl⟩:=List.mem_map.1 hz
    exact (HYF.out y hy).2
   have HFIN:=Lib.hid hfin
   clear hfin
   by_cases h1:k<xs.length
   ·have hd1:decide ((k:Int)<(xs.length:Int))=true:=decide_eq_true (by omega)
    have hkm':¬ (k:Int)<(n:Int):=by omega
    have hkl':(k:Int)<(xs.length:Int):=by omega
    go_wp2
    go_ret
    obtain ⟨v',es,rfl,f1,f2,f3⟩:=HFIN.out
    exact ⟨_,rfl,es,f1,f2,f3,HB.out⟩
   ·have hkl':¬ (k:Int)<(xs.length:Int):=by omega
    go_wp2
    go_ret
    obtain ⟨v',es,rfl,f1,f2,f3⟩:=HFIN.out
    exact ⟨_,rfl,es,f1,f2,f3,HB.out⟩
end Go.Proofs.YtjdbbnhnbdocbaaGreat
namespace Go.Proofs.YtjdbbnhnbdocbaaGreat
open Go.RowKit Go.Tn Go.Tn.Bt Go.Tn.Lp Go.Tn.Dk Go.Tn.Ino Go.Tn.Dr Go.Tn.Fm Go.Tn.Names
inductive Reach (N:Nat→Nd):Nat→Nat→Prop
 | z (i:Nat):Reach N i i
 | s {j i:Nat} {y:Ent}:y∈(N j).L→Reach N y.ino i→Reach N j i
structure Tree (N:Nat→Nd):Prop where
 root:(N 1).kind=1∧(N 1).gen=1
 dir: ∀j y,y∈(N j).L→(N j).kind=1
 in_: ∀j,(N j).kind≠0→1≤j∧j<41
 ent: ∀j y,y∈(N j).L→2≤y.ino∧y.ino<41∧(y.kind=1∨y.kind=2)∧(N y.ino).kind=y.kind∧(N y.ino).gen=y.gen
 one: ∀j j' y y',y∈(N j).L→y'∈(N j').L→y.ino=y'.ino→j=j'∧y=y'
 all: ∀i,2≤i→(N i).kind≠0→ ∃j y,y∈(N j).L∧y.ino=i
 top: ∃h:Nat→Nat, ∀j y,y∈(N j).L→h y.ino<h j
section
variable {N N':Nat→Nd} {i j k:Nat} {x y e:Ent}
theorem Tree.congr (h:Tree N) (hk: ∀j,(N' j).kind=(N j).kind) (hg: ∀j,(N' j).gen=(N j).gen) (hL: ∀j z,z∈(N' j).L↔z∈(N j).L):Tree N':=by
 refine ⟨by rw [hk,hg];exact h.root,fun j y hy=>by rw [hk];exact h.dir j y ((hL _ _).1 hy),fun j hj=>h.in_ j (by rwa [hk] at hj),fun j y hy=> ?_,fun j j' y y' hy hy' he=>h.one j j' y y' ((hL _ _).1 hy) ((hL _ _).1 hy') he,fun i hi h0=> ?_,?_⟩
 ·rw [hk,hg]
  exact h.ent j y ((hL _ _).1 hy)
 ·obtain ⟨j,y,h1,h2⟩:=h.all i hi (by rwa [hk] at h0)
  exact ⟨j,y,(hL _ _).2 h1,h2⟩
 ·obtain ⟨t,ht⟩:=h.top
  exact ⟨t,fun j y hy=>ht j y ((hL _ _).1 hy)⟩
theorem Tree.below (h:Tree N) (hy:y∈(N j).L):y.ino≠j:=fun e=>by
 obtain ⟨t,ht⟩:=h.top
 have:=ht j y hy
 rw [e] at this
 omega
theorem Tree.drop (h:Tree N) (hy:y∈(N k).L) (h0:(N y.ino).L= []) (hk: ∀j,(N' j).kind=if j=y.ino then 0 else (N j).kind) (hg: ∀j,(N' j).gen=(N j).gen) (hL: ∀j z,z∈(N' j).L↔z∈(N j).L∧¬(j=k∧z=y)):Tree N':=by
 have he:=h.ent k y hy
 have hne: ∀j z,z∈(N' j).L→z.ino≠y.ino:=fun j z hz e=>by
  obtain ⟨h1,h2⟩:=(hL j z).1 hz
  exact h2 (h.one j k z y h1 hy e)
 refine ⟨?_,fun j z hz=> ?_,fun j hj=>h.in_ j ?_,fun j z hz=> ?_,fun j j' z z' hz hz' e=>h.one j j' z z' ((hL _ _).1 hz).1 ((hL _ _).1 hz').1 e,fun i hi hi0=> ?_,?_⟩
 ·rw [hk,hg,if_neg (by omega)]
  exact h.root
 ·have h1:=((hL _ _).1 hz).1
  rw [hk,if_neg (fun e=>by rw [e,h0] at h1;cases h1)]
  exact h.dir j z h1
 ·intro e
  rw [hk,e] at hj
  split at hj<;>exact hj rfl
 ·have h1:=h.ent j z ((hL _ _).1 hz).1
  rw [hk,hg,if_neg (hne j z hz)]
  exact h1
 ·rw [hk] at hi0
  by_cases e:i=y.ino
  ·rw [if_pos e] at hi0
   exact absurd rfl hi0
  ·rw [if_neg e] at hi0
   obtain ⟨j,z,h1,h2⟩:=h.all i hi hi0
   exact ⟨j,z,(hL _ _).2 ⟨h1,fun hh=>e (by rw [←h2,hh.2])⟩,h2⟩
 ·obtain ⟨t,ht⟩:=h.top
  exact ⟨t,fun j z hz=>ht j z ((hL _ _).1 hz).1⟩
theorem Tree.add (h:Tree N) (hi:2≤e.ino∧e.ino<41) (hi0:(N e.ino).kind=0) (hkk:(N k).kind=1) (hek:e.kind=1∨e.kind=2) (hk: ∀j,(N' j).kind=if j=e.ino then e.kind else (N j).kind) (hg: ∀j,(N' j).gen=if j=e.ino then e.gen else (N j).gen) (hL: ∀j z,z∈(N' j).L↔z∈(N j).L∨j=k∧z=e):Tree N':=by
 have hne: ∀j z,z∈(N j).L→z.ino≠e.ino:=fun j z hz he=>by
  have h1:=h.ent j z hz
  rw [he] at h1
  omega
 have hke:k≠e.ino:=fun he=>by rw [←he] at hi0;omega
 have hL0: ∀z,z∉(N e.ino).L:=fun z hz=>by
  have:=h.dir _ z hz
  omega
 refine ⟨?_,fun j z hz=> ?_,fun j hj=> ?_,fun j z hz=> ?_,fun j j' z z' hz hz' he=> ?_,fun i hi2 hik=> ?_,?_⟩
 ·rw [hk,hg,if_neg (by omega),if_neg (by omega)]
  exact h.root
 ·rw [hk]
  rcases (hL _ _).1 hz with h1|⟨rfl, -⟩
  ·rw [if_neg (fun he=>hL0 z (by rw [←he];exact h1))]
   exact h.dir j z h1
  ·rw [if_neg hke]
   exact hkk
 ·rw [hk] at hj
  by_cases he:j=e.ino
  ·omega
  ·rw [if_neg he] at hj
   exact h.in_ j hj
 ·rw [hk,hg]
  rcases (hL _ _).1 hz with h1|⟨-,rfl⟩
  ·rw [if_neg (hne j z h1),if_neg (hne j z h1)]
   exact h.ent j z h1
  ·rw [if_pos rfl,if_pos rfl]
   exact ⟨hi.1,hi.2,hek,rfl,rfl⟩
 ·rcases (hL _ _).1 hz with h1|⟨rfl,rfl⟩
  ·rcases (hL _ _).1 hz' with h2|⟨rfl,rfl⟩
   ·exact h.one j j' z z' h1 h2 he
   ·exact absurd he (hne j z h1)
  ·rcases (hL _ _).1 hz' with h2|⟨rfl,rfl⟩
   ·exact absurd he.symm (hne j' z' h2)
   ·exact ⟨rfl,rfl⟩
 ·rw [hk] at hik
  by_cases he:i=e.ino
  ·exact ⟨k,e,(hL _ _).2 (.inr ⟨rfl,rfl⟩),he.symm⟩
  ·rw [if_neg he] at hik
   obtain ⟨j,z,h1,h2⟩:=h.all i hi2 hik
   exact ⟨j,z,(hL _ _).2 (.inl h1),h2⟩
 ·obtain ⟨t,ht⟩:=h.top
  refine ⟨fun j=>if j=e.ino then 0 else t j+1,fun j z hz=> ?_⟩
  simp only
  rcases (hL _ _).1 hz with h1|⟨rfl,rfl⟩
  ·have h2:=ht j z h1
   rw [if_neg (hne j z h1),if_neg (fun he=>hL0 z (by rw [←he];exact h1))]
   omega
  ·rw [if_pos rfl,if_neg hke]
   omega
theorem Tree.move (h:Tree N) (hx:x∈(N i).L) (hkk:(N k).kind=1) (hr:¬ Reach N x.ino k) (he:e.ino=x.ino∧e.gen=x.gen∧e.kind=x.kind) (hk: ∀j,(N' j).kind=(N j).kind) (hg: ∀j,(N' j).gen=(N j).gen) (hL: ∀j z,z∈(N' j).L↔(z∈(N j).L∧¬(j=i∧z=x))∨j=k∧z=e):Tree N':=by
 have hne: ∀j z,z∈(N j).L→¬(j=i∧z=x)→z.ino≠x.ino:=fun j z hz hh e=>hh (h.one j i z x hz hx e)
 refine ⟨by rw [hk,hg];exact h.root,fun j z hz=> ?_,fun j hj=>h.in_ j (by rwa [hk] at hj),fun j z hz=> ?_,fun j j' z z' hz hz' hzz=> ?_,fun q hq2 hqk=> ?_,?_⟩
 ·rw [hk]
  rcases (hL _ _).1 hz with ⟨h1, -⟩|⟨rfl, -⟩
  ·exact h.dir j z h1
  ·exact hkk
 ·rw [hk,hg]
  rcases (hL _ _).1 hz with ⟨h1, -⟩|⟨-,rfl⟩
  ·exact h.ent j z h1
  ·rw [he.1,he.2.1,he.2.2]
   exact h.ent i x hx
 ·rcases (hL _ _).1 hz with ⟨h1,h3⟩|⟨rfl,rfl⟩
  ·rcases (hL _ _).1 hz' with ⟨h2, -⟩|⟨rfl,rfl⟩
   ·exact h.one j j' z z' h1 h2 hzz
   ·exact absurd (hzz.trans he.1) (hne j z h1 h3)
  ·rcases (hL _ _).1 hz' with ⟨h2,h3⟩|⟨rfl,rfl⟩
   ·exact absurd (hzz.symm.trans he.1) (hne j' z' h2 h3)
   ·exact ⟨rfl,rfl⟩
 ·rw [hk] at hqk
  obtain ⟨j,z,h1,h2⟩:=h.all q hq2 hqk
  by_cases hh:j=i∧z=x
  ·exact ⟨k,e,(hL _ _).2 (.inr ⟨rfl,rfl⟩),by rw [he.1, ←hh.2,h2]⟩
  ·exact ⟨j,z,(hL _ _).2 (.inl ⟨h1,hh⟩),h2⟩
 ·obtain ⟨t,ht⟩:=h.top
  classical
  refine ⟨fun j=>if Reach N j k then t j+t x.ino+1 else t j,fun j z hz=> ?_⟩
  simp only
  rcases (hL _ _).1 hz with ⟨h1, -⟩|⟨rfl,rfl⟩
  ·have h2:=ht j z h1
   by_cases h3:Reach N z.ino k
   ·rw [if_pos h3,if_pos (.s h1 h3)]
    omega
   ·rw [if_neg h3]
    split<;>omega
  ·rw [he.1,if_neg hr,if_pos (.z _)]
   omega
def Later (N N':Nat→Nd):Prop:= ∀j,(N j).gen≤(N' j).gen∧((N' j).gen=(N j).gen→(N j).kind=0→(N' j).kind=0)
theorem Later.refl (N:Nat→Nd):Later N N:=fun _=>⟨Nat.le_refl _,fun _ h=>h⟩
theorem Later.trans {N'':Nat→Nd} (h:Later N N') (h':Later N' N''):Later N N'':=fun j=>by
 have h1:=h j
 have h2:=h' j
 exact ⟨Nat.le_trans h1.1 h2.1,fun e h0=>h2.2 (by omega) (h1.2 (by omega) h0)⟩
def Dead (N:Nat→Nd) (i g:Nat):Prop:=g<(N i).gen∨(N i).gen=g∧(N i).kind=0
theorem Later.dead {g:Nat} (h:Later N N') (hd:Dead N i g):Dead N' i g:=by
 have h1:=h i
 rcases hd with h2|⟨h2,h3⟩
 ·exact .inl (by omega)
 ·by_cases h4:(N' i).gen=(N i).gen
  ·exact .inr ⟨by omega,h1.2 h4 h3⟩
  ·exact .inl (by omega)
end
structure Chs (n:Nat) (V:Nat→List Nat) (M:Sm) (N:Nat→Nd) (P:Nat→List Nat) (T:Nat→Bool) (H:Nat→Option (List Nat)) (m:Nat):Prop where
 mid:Mid n T (ov H V) P fun j k=>(N j).blk k
 ck:ChOk n H m
 zero:H 0=none
 in_: ∀j,1≤j→j<41→H (1+j)=some (Sm.ino ⟨N,P,M.rcd⟩ j).sec∨H (1+j)=none∧N j=M.N j∧P j=M.P j
 nd: ∀j,NdOk (N j)
section
variable {n m:Nat} {T T':Nat→Bool} {H H':Nat→Option (List Nat)} {V:Nat→List Nat} {P:Nat→List Nat} {N:Nat→Nd} {M:Sm} {j i err':Nat} {bl':List Nat} {L:List Ent}
theorem Chs.start (h:Rep n V M):Chs n V M M.N M.P (takenP M.P) (fun _=>none) 0:=
 ⟨h.mid,ChOk.none n,rfl,fun _ _ _=> .inr ⟨rfl,rfl,rfl⟩,h.nd⟩
theorem Chs.end_ (h:Rep n V M) (hc:Chs n V M N P T H m):Rep n (ov (putH H 1 (mapSec T)) V) ⟨N,P,M.rcd⟩:=h.turn hc.mid hc.nd hc.zero hc.in_
theorem Chs.node (hn:46≤n) (hc:Chs n V M N P T H m) (hj:1≤j∧j<41) {x:Nd} {m':Nat} (hmid:Mid n T' (ov H' V) (Fm.upd P j bl') fun i k=>((Fm.upd N j x) i).blk k) (hck:ChOk n H' m') (hlow: ∀k,k<42→H' k=H k) (hx:NdOk x) (hl:bl'.length=8) {b:List Nat} (hb:b=(Ino.mk x.kind x.gen x.ver bl').sec):Chs n V M (Fm.upd N j x) (Fm.upd P j bl') T' (putH H' (1+j) b) (m'+1):=by
 subst hb
 refine ⟨hmid.view fun p hp _=>by rw [ov_put,Fm.upd_ne _ _ (by omega)],hck.put (by omega) (ino_secB hl),?_,fun a h1 h2=> ?_,fun a=> ?_⟩
 ·rw [putH_ne _ _ (by omega),hlow 0 (by decide)]
  exact hc.zero
 ·by_cases ha:a=j
  ·refine .inl ?_
   rw [ha,putH_at]
   unfold Sm.ino
   simp only [Fm.upd_at]
  ·rw [putH_ne _ _ (by omega),hlow _ (by omega)]
   have:=hc.in_ a h1 h2
   unfold Sm.ino at this ⊢
   simp only [Fm.upd_ne _ _ ha] at this ⊢
   exact this
 ·by_cases ha:a=j
  ·rw [ha,Fm.upd_at]
   exact hx
  ·rw [Fm.upd_ne _ _ ha]
   exact hc.nd a
theorem Chs.free (hn:46≤n) (hc:Chs n V M N P T H m) (hj:1≤j∧j<41) (hs:EmptyTo n T H (P j) 8 T' H' bl'):Chs n V M (Fm.upd N j (Nd.no (N j).gen)) (Fm.upd P j bl') T' (putH H' (1+j) (Ino.free (N j).gen).sec) (m+1):=by
 obtain ⟨h1,h2,h3⟩:=hs.mid hc.mid hc.ck
 have hl:bl'.length=8:=by rw [hs.len,hc.mid.len]
 have h1':Mid n T' (ov H' V) (Fm.upd P j bl') fun i k=>((Fm.upd N j (Nd.no (N j).gen)) i).blk k:=h1.congr fun a k hk8=>by
  by_cases ha:a=j
  ·rw [ha,Fm.upd_at,Fm.upd_at]
   unfold firstW
   rw [if_pos hk8]
   rfl
  ·rw [Fm.upd_ne _ _ ha,Fm.upd_ne _ _ ha]
 have hz:bl'=List.replicate 8 0:=by
  apply List.ext_getElem?
  intro k
  by_cases hk8:k<8
  ·obtain ⟨q,hq⟩: ∃q,bl'[k]?=some q:=⟨_,List.getElem?_eq_getElem (by rw [hl];exact hk8)⟩
   have h0:q=0:=by
    apply Classical.byContradiction
    intro hn
    refine (h1'.has j k q (by rw [Fm.upd_at];exact hq)).1 hn ?_
    rw [Fm.upd_at]
    rfl
   rw [hq,h0,List.getElem?_replicate,if_pos hk8]
  ·rw [List.getElem?_eq_none (by rw [hl];omega),List.getElem?_eq_none (by simp;omega)]
 refine Chs.node hn hc hj h1' h2 h3 ?_ hl ?_
 ·have hg:=(hc.nd j).gen
  exact ⟨hg,Nat.zero_le _,by simp [Nd.no], .inl ⟨rfl,rfl,rfl,fun t ht=>List.eq_of_mem_replicate ht⟩⟩
 ·rw [hz]
  rfl
theorem Chs.dir (hn:46≤n) (hc:Chs n V M N P T H m) (hj:1≤j∧j<41) (hk:(N j).kind=1) (hL: ∀e∈L,Ent.ok e) (hr:Dr.Rise L) (h24:L.length≤24) (hv:(N j).ver<1099511627775) (hs:SetTo n T H 0 (P j) (dirB L) 8 T' H' err' bl'):
  (err'=0∧Chs n V M (Fm.upd N j {N j with L:=L,ver:=(N j).ver+1}) (Fm.upd P j bl') T' (putH H' (1+j) (Ino.sec ⟨1,(N j).gen,(N j).ver+1,bl'⟩)) (m+6))∨err'=8∧Stuck n (fun j k=>(N j).blk k) j (dirB L):=by
 rcases dir_mid hc.mid hc.ck hj hk h24 ((N j).ver+1) hs with ⟨h1,h2,h3,h4⟩|h1
 ·exact .inl ⟨h1,Chs.node hn hc hj h2 h3 h4 (dir_ok (hc.nd j) hk hL hr h24 hv) (hs.len.trans (hc.mid.len j)) (by rw [←hk])⟩
 ·exact .inr h1
end
end Go.Proofs.YtjdbbnhnbdocbaaGreat
