import Derived.Test.YtjdbbnhnbdocbaaGreatRows
import Derived.Test.YtjdbbnhnbdocbaaGreatMgGon6
import Derived.Test.YtjdbbnhnbdocbaaGreatMgGon3
import Derived.Test.YtjdbbnhnbdocbaaGreatMgGon5
import Derived.Test.YtjdbbnhnbdocbaaGreatMgGon4
import Derived.BigQuiet
import Derived.WalkKit
import Derived.WalkSpells
import Derived.Deep.LoopGhost
import Derived.Deep.DeepCutAuto
import Derived.Deep.CutBlock
namespace Go.Proofs.YtjdbbnhnbdocbaaGreat
open Go.RowKit Go.Tn Go.Tn.Bt
abbrev en8:Nat→List Value:=fun b=> [.int .u8 b]
theorem el8:ElT Tryz.prog 44 5 1 en8:=⟨Tryz.underlying44,by kernel_rfl,by decide,fun _=>rfl,fun x u hu=>by simp [en8] at hu;subst hu;rfl⟩
structure WrAt (w:World) (a:Nat) (v:Value) (L:List Bool):Prop where
 blk:w.heap[a]?=some (.cells #[.bool true,v, .int .i64 (used L), .int .i64 0] 271 (0,0))
 bs:LOut en8 1 5 (a+1) w v (pack L)
structure WMod (a:Nat) (v:Value) (w:World) (v':Value) (w':World):Prop where
 mod:Mod (fun b=>b=a∨v.ownBlock=some b) w w'
 own:v'.ownBlock=v.ownBlock∨ ∃r,v'.ownBlock=some r∧w.heap.size≤r
theorem WMod.refl (a:Nat) (v:Value) (w:World):WMod a v w v w:=⟨Mod.refl _ _, .inl rfl⟩
theorem WMod.trans {a:Nat} {v v1 v2:Value} {w w1 w2:World} (h:WMod a v w v1 w1) (k:WMod a v1 w1 v2 w2):WMod a v w v2 w2:=by
 refine ⟨h.mod.trans k.mod (fun _ h=>h) fun x hx hS=> ?_,?_⟩
 ·rcases hS with hS|hS
  ·exact .inl hS
  ·rcases h.own with e|⟨r,e,hr⟩
   ·exact .inr (e ▸ hS)
   ·rw [e] at hS
    cases hS
    omega
 ·rcases k.own with e|⟨r,e,hr⟩
  ·rcases h.own with e'|⟨r',e',hr'⟩
   ·exact .inl (e.trans e')
   ·exact .inr ⟨r',e.trans e',hr'⟩
  ·exact .inr ⟨r,e,Nat.le_trans h.mod.size hr⟩
theorem bNew_any (w:World):Calls Tryz.prog 124 #[] w fun e w'=>e= .returned (.pointer (some ⟨w.heap.size,0,none⟩))∧WrAt w' w.heap.size (.slice none 0 0) []∧Below w.heap.size w w':=by
 go_enter Tryz.func124,Tryz.ntmps124
 go_wp2
 go_ret
 exact ⟨rfl,⟨heap_alloc_at,LOut.nil (by simp)⟩,(Below.refl _ _).alloc (Nat.le_refl _) _⟩
structure WS (a b m cap:Nat) (u c:Nat) (w:World):Prop where
 c1:w.cell? ⟨a,1,none⟩=some (.slice (some ⟨b,0,none⟩) (m+1:Nat) cap)
 c2:w.cell? ⟨a,2,none⟩=some (.int .i64 ((u:Nat):Int))
 cb:w.cell? ⟨b,m,none⟩=some (.int .u8 c)
theorem LOut.last {w:World} {B:Nat} {v:Value} {bs:List Nat} {m c:Nat} (h:LOut en8 1 5 B w v bs) (hm:bs.length=m+1) (hc:bs[m]?=some c): ∃b cap,v= .slice (some ⟨b,0,none⟩) (m+1:Nat) cap∧B≤b∧b<w.heap.size∧w.cell? ⟨b,m,none⟩=some (.int .u8 c)∧ ∀o,w.frozen? ⟨b,o,none⟩=false:=by
 have hs:=h.sl el8.len
 obtain ⟨b,off,cap,rfl,hlt,hl⟩:=hs.at_ hc
 have hw:=h.whole
 obtain ⟨rfl,_⟩:=hw
 have h0:=hl 0 (by simp)
 refine ⟨b,cap,by rw [hm],h.lo b rfl,hlt,?_,fun o=>h.frozen o⟩
 simpa using h0
theorem some_core (w:World) (a:Nat) (v:Value) (bs:List Nat) (u:Nat) (hblk:w.heap[a]?=some (.cells #[.bool true,v, .int .i64 u, .int .i64 0] 271 (0,0))) (hbs:LOut en8 1 5 (a+1) w v bs)
  (x n k m c:Nat) (hx:x<2 ^ 64) (hn:n≤64) (hmin:(if (8:Int)-u<n then (8:Int)-u else n)=k) (hk1:0<k) (hkn:k≤n) (hu8:u<8) (hku:u+k≤8) (hm:bs.length=m+1) (hmx:m≤100000) (hc:bs[m]?=some c) (hc8:c<256):
  Calls Tryz.prog 173 #[.pointer (some ⟨a,0,none⟩), .int .u64 x, .int .i64 n] w
  fun e w'=>e= .returned (.int .i64 ((n-k:Nat):Int))∧w'.heap[a]?=some (.cells #[.bool true,v, .int .i64 (u+k:Nat), .int .i64 0] 271 (0,0))∧LOut en8 1 5 (a+1) w' v (bs.set m (c ||| (x/2 ^ (n-k) %2 ^ k*2 ^ (8-(u+k)))))∧Below a w w'∧WMod a v w v w':=by
 obtain ⟨b,cap,rfl,hab,hbl,hcb,hfb⟩:=LOut.last hbs hm hc
 have hc0:w.cell? ⟨a,0,none⟩=some (.bool true):=cell_of hblk rfl
 have hc1:w.cell? ⟨a,1,none⟩=some (.slice (some ⟨b,0,none⟩) (m+1:Nat) cap):=cell_of hblk rfl
 have hc2:w.cell? ⟨a,2,none⟩=some (.int .i64 u):=cell_of hblk rfl
 have hf: ∀o,w.frozen? ⟨a,o,none⟩=false:=fun o=>free_of hblk
 have hne:((u:Int)==8)=false:=by simp;omega
 have hkn':(k:Int)≤n:=by omega
 have hk0':(0:Int)≤k:=by omega
 have hn':(n:Int)≤64:=by omega
 have hku':(u:Int)+k≤8:=by omega
 have hw1:IntKind.i64.wrap ((n:Int)-k)=((n-k:Nat):Int):=by rw [IntWalk.i64_in _ (by omega)];omega
 have hwm:IntKind.i64.wrap (m:Int)=m:=IntWalk.i64_in _ (by omega)
 have hm0:(0:Int)≤m:=by omega
 have hm1:(m:Int)<(m:Int)+1:=by omega
 have hwu:IntKind.i64.wrap (8-((u:Int)+k))=((8-(u+k):Nat):Int):=by rw [IntWalk.i64_in _ (by omega)];omega
 have hE:bits .and .u8 (IntKind.u8.wrap ((x:Int)/2 ^ min (n-k) 64)) (IntKind.u8.wrap (IntKind.u8.wrap ((2:Int) ^ k)-1))=((x/2 ^ (n-k) %2 ^ k:Nat):Int):=by
  have h1:1≤2 ^ k:=Nat.one_le_two_pow
  have h2:2 ^ k≤2 ^ 8:=Nat.pow_le_pow_right (by decide) (by omega)
  have e1:IntKind.u8.wrap ((x:Int)/2 ^ min (n-k) 64)=((x/2 ^ (n-k) %256:Nat):Int):=by
   rw [Nat.min_eq_left (by omega), ←wrap8]
   norm_cast
  have e2:IntKind.u8.wrap (IntKind.u8.wrap ((2:Int) ^ k)-1)=((2 ^ k-1:Nat):Int):=by
   have e:((2:Int) ^ k)=((2 ^ k:Nat):Int):=by norm_cast
   rw [e,IntKind.wrap_u8,IntKind.wrap_u8]
   omega
  rw [e1,e2,and8 _ _ (Nat.mod_lt _ (by decide)) (by omega),mask8 _ k (by omega)]
 have hpl:x/2 ^ (n-k) %2 ^ k<2 ^ k:=Nat.mod_lt _ (Nat.two_pow_pos _)
 have hE2:bits .or .u8 (c:Int) (IntKind.u8.wrap (((x/2 ^ (n-k) %2 ^ k:Nat):Int)*2 ^ (8-(u+k))))=((c ||| (x/2 ^ (n-k) %2 ^ k*2 ^ (8-(u+k))):Nat):Int):=by
  have hlt:x/2 ^ (n-k) %2 ^ k*2 ^ (8-(u+k))<2 ^ 8:=by
   calc x/2 ^ (n-k) %2 ^ k*2 ^ (8-(u+k))<2 ^ k*2 ^ (8-(u+k)):=(Nat.mul_lt_mul_right (Nat.two_pow_pos _)).2 hpl
    _=2 ^ (8-u):=by rw [←Nat.pow_add,show k+(8-(u+k))=8-u by omega]
    _≤2 ^ 8:=Nat.pow_le_pow_right (by decide) (by omega)
  have e:(((x/2 ^ (n-k) %2 ^ k:Nat):Int)*2 ^ (8-(u+k)))=((x/2 ^ (n-k) %2 ^ k*2 ^ (8-(u+k)):Nat):Int):=by norm_cast
  rw [e,wrap8,Nat.mod_eq_of_lt hlt,or8 _ _ hc8 hlt]
 generalize x/2 ^ (n-k) %2 ^ k=r at*
 generalize n-k=d at*
 go_enter Tryz.func173,Tryz.ntmps173
 go_upto_region 5 with fail
 refine wp_region_x (fun _=>True) [(0,1),(1,1),(2,1),(3,1),(4,1),(5,1),(6,1),(7,1),(8,1),(9,1),(10,1)] (by kernel_rfl) (by kernel_rfl) (by intro d v c a w h;cases d<;>exact h) ?_
 iterate 11 (refine x_take rfl (fun K hK=> ?_);go_simp;refine hK _ ?_;clear hK K)
 refine x_nil ?_
 go_upto_region 7 with fail
 have hM:Mod (fun x=>x=a) w (w.setCell ⟨a,2,none⟩ (.int .i64 ((u:Int)+k))).drew.drew:=((Mod.refl (fun x=>x=a) w).setCell ⟨a,2,none⟩ (.int .i64 ((u:Int)+k)) fun _=>rfl).drew.drew
 have hba:¬ (fun x=>x=a) b:=fun e=>by
  have e':b=a:=e
  omega
 have hS:WS a b m cap (u+k) c (w.setCell ⟨a,2,none⟩ (.int .i64 ((u:Int)+k))).drew.drew:=
  ⟨by have:=cell_of (o:=1) (heap_setCell_at (o:=2) (v:= .int .i64 ((u:Int)+k)) hblk) rfl;exact this,by have:=cell_of (o:=2) (heap_setCell_at (o:=2) (v:= .int .i64 ((u:Int)+k)) hblk) rfl;exact this,cell_mod hcb hM hba⟩
 refine wp_region_x (WS a b m cap (u+k) c) [(0,1),(1,1),(2,1),(3,0),(4,1),(5,1),(6,1),(7,0),(8,1),(9,1),(10,1),(11,0),(12,1),(13,1),(14,1),(15,1),(16,0),(17,1),(18,1),(19,1),(20,1),(21,3)] (by kernel_rfl) (by kernel_rfl) (by intro d v c a w h;cases d<;>exact h) ?_
 iterate 3 (refine x_take rfl (fun K hK=> ?_);go_simp;refine hK _ ?_;clear hK K)
 refine x_read rfl hS (fun w' h=>exec_load1 ⟨⟨_,Tryz.underlying44,rfl⟩⟩ rfl h.c1) ?_
 iterate 3 (refine x_take rfl (fun K hK=> ?_);go_simp;refine hK _ ?_;clear hK K)
 refine x_read rfl hS (fun w' h=>exec_load1 ⟨⟨_,Tryz.underlying44,rfl⟩⟩ rfl h.c1) ?_
 iterate 3 (refine x_take rfl (fun K hK=> ?_);go_simp;refine hK _ ?_;clear hK K)
 refine x_read rfl hS (fun w' h=>exec_load1 ⟨⟨_,Tryz.underlying5,rfl⟩⟩ rfl h.cb) ?_
 iterate 4 (refine x_take rfl (fun K hK=> ?_);go_simp;refine hK _ ?_;clear hK K)
 refine x_read rfl hS (fun w' h=>exec_load1 ⟨⟨_,Tryz.underlying3,rfl⟩⟩ rfl h.c2) ?_
 iterate 4 (refine x_take rfl (fun K hK=> ?_);go_simp;refine hK _ ?_;clear hK K)
 have hf2:=(frozen_mod (o:=m) hM hbl hba).trans (hfb m)
 have hcb2:=hS.cb
 refine x_exec' rfl (fun K hK=> ?_)
 go_simp
 refine hK _ _ ?_
 clear hK K
 refine x_nil ?_
 go_wp2
 go_ret
 have hL:=(hbs.kept (w':=w.setCell ⟨a,2,none⟩ (.int .i64 ((u:Int)+k))) (by simp [World.setCell]) fun r hr=>by
  cases hr
  exact heap_setCell_ne (show b≠a by omega)).set el8.len (i:=m) (j:=0) (x:=c) (y:=c ||| r*2 ^ (8-(u+k))) (u:= .int .u8 ((c ||| r*2 ^ (8-(u+k)):Nat):Int)) hc (by decide) rfl
 rw [show 0+m*1+0=m by omega] at hL
 refine ⟨rfl,?_,hL.kept (Nat.le_refl _) fun _ _=>rfl,?_,⟨?_, .inl rfl⟩⟩
 ·exact heap_setCell_of (heap_setCell_at (o:=2) hblk) (show a≠b by omega)
 rotate_left
 ·exact ((((Mod.refl _ w).setCell ⟨a,2,none⟩ _ fun _=> .inl rfl).setCell ⟨b,m,none⟩ _ fun _=> .inr rfl).drew).drew
 ·exact (((Below.refl _ w).setCell (p:=⟨a,2,none⟩) (Nat.le_refl _) _).setCell (p:=⟨b,m,none⟩) (show a≤b by omega) _).drew.drew
set_option maxRecDepth 20000 in
theorem some_new (W:World) (a:Nat) (v:Value) (bs:List Nat) (hblk0:W.heap[a]?=some (.cells #[.bool true,v, .int .i64 8, .int .i64 0] 271 (0,0))) (hbs0:LOut en8 1 5 (a+1) W v bs)
  (x n k m:Nat) (hx:x<2 ^ 64) (hn:n≤64) (hmin:(if (8:Int)<n then (8:Int) else n)=k) (hk1:0<k) (hkn:k≤n) (hk8:k≤8) (hmb:bs.length=m) (hmx:m≤60000):
  Calls Tryz.prog 173 #[.pointer (some ⟨a,0,none⟩), .int .u64 x, .int .i64 n] W
  fun e w'=>e= .returned (.int .i64 ((n-k:Nat):Int))∧ ∃v',w'.heap[a]?=some (.cells #[.bool true,v', .int .i64 (k:Nat), .int .i64 0] 271 (0,0))∧LOut en8 1 5 (a+1) w' v' (bs++ [x/2 ^ (n-k) %2 ^ k*2 ^ (8-k)])∧Below a W w'∧WMod a v W v' w':=by
 have hc0:W.cell? ⟨a,0,none⟩=some (.bool true):=cell_of hblk0 rfl
 have hc1:W.cell? ⟨a,1,none⟩=some v:=cell_of hblk0 rfl
 have hc2:W.cell? ⟨a,2,none⟩=some (.int .i64 8):=cell_of hblk0 rfl
 have hf: ∀o,W.frozen? ⟨a,o,none⟩=false:=fun o=>free_of hblk0
 have hkn':(k:Int)≤n:=by omega
 have hk0':(0:Int)≤k:=by omega
 have hn':(n:Int)≤64:=by omega
 have hk8':(k:Int)≤8:=by omega
 have hw1:IntKind.i64.wrap ((n:Int)-k)=((n-k:Nat):Int):=by rw [IntWalk.i64_in _ (by omega)];omega
 have hwm:IntKind.i64.wrap (m:Int)=m:=IntWalk.i64_in _ (by omega)
 have hm0:(0:Int)≤m:=by omega
 have hm1:(m:Int)<(m:Int)+1:=by omega
 have hwu:IntKind.i64.wrap (8-(k:Int))=((8-k:Nat):Int):=by rw [IntWalk.i64_in _ (by omega)];omega
 have hE:bits .and .u8 (IntKind.u8.wrap ((x:Int)/2 ^ min (n-k) 64)) (IntKind.u8.wrap (IntKind.u8.wrap ((2:Int) ^ k)-1))=((x/2 ^ (n-k) %2 ^ k:Nat):Int):=by
  have h1:1≤2 ^ k:=Nat.one_le_two_pow
  have h2:2 ^ k≤2 ^ 8:=Nat.pow_le_pow_right (by decide) (by omega)
  have e1:IntKind.u8.wrap ((x:Int)/2 ^ min (n-k) 64)=((x/2 ^ (n-k) %256:Nat):Int):=by
   rw [Nat.min_eq_left (by omega), ←wrap8]
   norm_cast
  have e2:IntKind.u8.wrap (IntKind.u8.wrap ((2:Int) ^ k)-1)=((2 ^ k-1:Nat):Int):=by
   have e:((2:Int) ^ k)=((2 ^ k:Nat):Int):=by norm_cast
   rw [e,IntKind.wrap_u8,IntKind.wrap_u8]
   omega
  rw [e1,e2,and8 _ _ (Nat.mod_lt _ (by decide)) (by omega),mask8 _ k (by omega)]
 have hpl:x/2 ^ (n-k) %2 ^ k<2 ^ k:=Nat.mod_lt _ (Nat.two_pow_pos _)
 have hE2:bits .or .u8 (0:Int) (IntKind.u8.wrap (((x/2 ^ (n-k) %2 ^ k:Nat):Int)*2 ^ (8-k)))=((x/2 ^ (n-k) %2 ^ k*2 ^ (8-k):Nat):Int):=by
  have hlt:x/2 ^ (n-k) %2 ^ k*2 ^ (8-k)<2 ^ 8:=by
   calc x/2 ^ (n-k) %2 ^ k*2 ^ (8-k)<2 ^ k*2 ^ (8-k):=(Nat.mul_lt_mul_right (Nat.two_pow_pos _)).2 hpl
    _=2 ^ 8:=by rw [←Nat.pow_add,show k+(8-k)=8 by omega]
  have e:(((x/2 ^ (n-k) %2 ^ k:Nat):Int)*2 ^ (8-k))=((x/2 ^ (n-k) %2 ^ k*2 ^ (8-k):Nat):Int):=by norm_cast
  rw [e,wrap8,Nat.mod_eq_of_lt hlt]
  have:=or8 0 _ (by decide) hlt
  rw [Nat.zero_or] at this
  exact this
 generalize x/2 ^ (n-k) %2 ^ k=r at*
 generalize n-k=d at*
 have hlen:bs.length≤1000000000:=by omega
 have hl2:(bs++ [0]).length=m+1:=by simp;omega
 have hg2:(bs++ [0])[m]?=some 0:=by rw [←hmb];simp
 go_enter Tryz.func173,Tryz.ntmps173
 go_upto_region 4 with (first
  | ((with_reducible refine wpList_append1Y el8 hbs0 0 hlen ?_ ?_ ?_ ?_);rfl;rfl;rfl;(intro v2 w2 hO2 hm2 hv2;have hb2:=hm2.below (B:=a+1) hbs0.le (fun x hx e=>by have:=hbs0.lo x e;omega);obtain ⟨b,cap,rfl,hab,hbl,hcb,hfb⟩:=LOut.last hO2 hl2 hg2;have hblk2:=(hb2.block a (Nat.lt_succ_self a)).trans hblk0;have hd1:w2.cell? ⟨a,1,none⟩=some v:=cell_of hblk2 rfl;have hd2:w2.cell? ⟨a,2,none⟩=some (.int .i64 8):=cell_of hblk2 rfl;have hff: ∀o,w2.frozen? ⟨a,o,none⟩=false:=fun o=>free_of hblk2;have HM2:=Lib.hid hm2;have HV2:=Lib.hid hv2;clear hm2 hv2);go_frame)
  | fail)
 have hblk:((w2.setCell ⟨a,1,none⟩ (.slice (some ⟨b,0,none⟩) (m+1:Nat) cap)).setCell ⟨a,2,none⟩ (.int .i64 0)).heap[a]?=some (.cells #[.bool true, .slice (some ⟨b,0,none⟩) (m+1:Nat) cap, .int .i64 0, .int .i64 0] 271 (0,0)):=heap_setCell_at (heap_setCell_at hblk2)
 have hMm:Mod (fun x=>x=a) w2 ((w2.setCell ⟨a,1,none⟩ (.slice (some ⟨b,0,none⟩) (m+1:Nat) cap)).setCell ⟨a,2,none⟩ (.int .i64 0)):=((Mod.refl (fun x=>x=a) w2).setCell ⟨a,1,none⟩ _ fun _=>rfl).setCell ⟨a,2,none⟩ _ fun _=>rfl
 have hW:Below a W ((w2.setCell ⟨a,1,none⟩ (.slice (some ⟨b,0,none⟩) (m+1:Nat) cap)).setCell ⟨a,2,none⟩ (.int .i64 0)):=((hb2.mono (Nat.le_succ a)).setCell (p:=⟨a,1,none⟩) (Nat.le_refl _) _).setCell (p:=⟨a,2,none⟩) (Nat.le_refl _) _
 have HWM:Hid (Mod (fun x=>x=a∨v.ownBlock=some x) W ((w2.setCell ⟨a,1,none⟩ (.slice (some ⟨b,0,none⟩) (m+1:Nat) cap)).setCell ⟨a,2,none⟩ (.int .i64 0))):=Lib.hid (((HM2.out.mono fun x _ h=> .inr h).setCell ⟨a,1,none⟩ _ fun _=> .inl rfl).setCell ⟨a,2,none⟩ _ fun _=> .inl rfl)
 have hba0:¬ (fun x=>x=a) b:=fun e=>by
  have e':b=a:=e
  omega
 have hbs:=hO2.kept (w':=((w2.setCell ⟨a,1,none⟩ (.slice (some ⟨b,0,none⟩) (m+1:Nat) cap)).setCell ⟨a,2,none⟩ (.int .i64 0))) hMm.size fun r hr=>by
  cases hr
  exact hMm.block b hbl hba0
 have hcb:=cell_mod hcb hMm hba0
 have hfb: ∀o,((w2.setCell ⟨a,1,none⟩ (.slice (some ⟨b,0,none⟩) (m+1:Nat) cap)).setCell ⟨a,2,none⟩ (.int .i64 0)).frozen? ⟨b,o,none⟩=false:=fun o=>(frozen_mod hMm hbl hba0).trans (hfb o)
 have hbl:=Nat.lt_of_lt_of_le hbl hMm.size
 clear hMm hba0 hO2 hb2 hc0 hc1 hc2 hf hd1 hd2 hff hblk2 hblk0 hbs0
 generalize (w2.setCell ⟨a,1,none⟩ (.slice (some ⟨b,0,none⟩) (m+1:Nat) cap)).setCell ⟨a,2,none⟩ (.int .i64 0)=w at*
 have hc:=hg2
 have hc0:w.cell? ⟨a,0,none⟩=some (.bool true):=cell_of hblk rfl
 have hc1:w.cell? ⟨a,1,none⟩=some (.slice (some ⟨b,0,none⟩) (m+1:Nat) cap):=cell_of hblk rfl
 have hc2:w.cell? ⟨a,2,none⟩=some (.int .i64 0):=cell_of hblk rfl
 have hf: ∀o,w.frozen? ⟨a,o,none⟩=false:=fun o=>free_of hblk
 go_upto_region 5 with fail
 refine wp_region_x (fun _=>True) [(0,1),(1,1),(2,1),(3,1),(4,1),(5,1),(6,1),(7,1),(8,1),(9,1),(10,1)] (by kernel_rfl) (by kernel_rfl) (by intro d v c a w h;cases d<;>exact h) ?_
 iterate 11 (refine x_take rfl (fun K hK=> ?_);go_simp;refine hK _ ?_;clear hK K)
 refine x_nil ?_
 go_upto_region 7 with fail
 have hM:Mod (fun x=>x=a) w (w.setCell ⟨a,2,none⟩ (.int .i64 (k:Int))).drew.drew:=((Mod.refl (fun x=>x=a) w).setCell ⟨a,2,none⟩ (.int .i64 (k:Int)) fun _=>rfl).drew.drew
 have hba:¬ (fun x=>x=a) b:=fun e=>by
  have e':b=a:=e
  omega
 have hS:WS a b m cap k 0 (w.setCell ⟨a,2,none⟩ (.int .i64 (k:Int))).drew.drew:=
  ⟨by have:=cell_of (o:=1) (heap_setCell_at (o:=2) (v:= .int .i64 (k:Int)) hblk) rfl;exact this,by have:=cell_of (o:=2) (heap_setCell_at (o:=2) (v:= .int .i64 (k:Int)) hblk) rfl;exact this,cell_mod hcb hM hba⟩
 refine wp_region_x (WS a b m cap k 0) [(0,1),(1,1),(2,1),(3,0),(4,1),(5,1),(6,1),(7,0),(8,1),(9,1),(10,1),(11,0),(12,1),(13,1),(14,1),(15,1),(16,0),(17,1),(18,1),(19,1),(20,1),(21,3)] (by kernel_rfl) (by kernel_rfl) (by intro d v c a w h;cases d<;>exact h) ?_
 iterate 3 (refine x_take rfl (fun K hK=> ?_);go_simp;refine hK _ ?_;clear hK K)
 refine x_read rfl hS (fun w' h=>exec_load1 ⟨⟨_,Tryz.underlying44,rfl⟩⟩ rfl h.c1) ?_
 iterate 3 (refine x_take rfl (fun K hK=> ?_);go_simp;refine hK _ ?_;clear hK K)
 refine x_read rfl hS (fun w' h=>exec_load1 ⟨⟨_,Tryz.underlying44,rfl⟩⟩ rfl h.c1) ?_
 iterate 3 (refine x_take rfl (fun K hK=> ?_);go_simp;refine hK _ ?_;clear hK K)
 refine x_read rfl hS (fun w' h=>exec_load1 ⟨⟨_,Tryz.underlying5,rfl⟩⟩ rfl h.cb) ?_
 iterate 4 (refine x_take rfl (fun K hK=> ?_);go_simp;refine hK _ ?_;clear hK K)
 refine x_read rfl hS (fun w' h=>exec_load1 ⟨⟨_,Tryz.underlying3,rfl⟩⟩ rfl h.c2) ?_
 iterate 4 (refine x_take rfl (fun K hK=> ?_);go_simp;refine hK _ ?_;clear hK K)
 have hf2:=(frozen_mod (o:=m) hM hbl hba).trans (hfb m)
 have hcb2:=hS.cb
 refine x_exec' rfl (fun K hK=> ?_)
 go_simp
 refine hK _ _ ?_
 clear hK K
 refine x_nil ?_
 go_wp2
 go_ret
 have hL:=(hbs.kept (w':=w.setCell ⟨a,2,none⟩ (.int .i64 (k:Int))) (by simp [World.setCell]) fun r hr=>by
  cases hr
  exact heap_setCell_ne (show b≠a by omega)).set el8.len (i:=m) (j:=0) (x:=0) (y:=r*2 ^ (8-k)) (u:= .int .u8 ((r*2 ^ (8-k):Nat):Int)) hc (by decide) rfl
 rw [show 0+m*1+0=m by omega] at hL
 have hset:(bs++ [0]).set m (r*2 ^ (8-k))=bs++ [r*2 ^ (8-k)]:=by rw [←hmb];simp
 rw [hset] at hL
 refine ⟨rfl,_,?_,hL.kept (Nat.le_refl _) fun _ _=>rfl,hW.trans ?_,⟨?_,HV2.out⟩⟩
 ·exact heap_setCell_of (heap_setCell_at (o:=2) hblk) (show a≠b by omega)
 rotate_left
 ·refine ((HWM.out.setCell ⟨a,2,none⟩ _ fun _=> .inl rfl).setCell ⟨b,m,none⟩ _ fun hb=> ?_).drew.drew
  rcases HV2.out with e|⟨r',e,hr'⟩
  ·exact .inr e.symm
  ·cases e
   exact absurd hb (Nat.not_lt.2 hr')
 ·exact (((Below.refl _ w).setCell (p:=⟨a,2,none⟩) (Nat.le_refl _) _).setCell (p:=⟨b,m,none⟩) (show a≤b by omega) _).drew.drew
theorem some_bits (w:World) (a:Nat) (v:Value) (L:List Bool) (h:WrAt w a v L) (hL:L.length≤400000) (x n k:Nat) (hx:x<2 ^ 64) (hn:n≤64) (h0:0<n) (hk:min n (8-L.length %8)=k):
  Calls Tryz.prog 173 #[.pointer (some ⟨a,0,none⟩), .int .u64 x, .int .i64 n] w
  fun e w'=>e= .returned (.int .i64 ((n-k:Nat):Int))∧ ∃v',WrAt w' a v' (L++bitsN (x/2 ^ (n-k)) k)∧Below a w w'∧WMod a v w v' w':=by
 have hnat:natOf (bitsN (x/2 ^ (n-k)) k)=x/2 ^ (n-k) %2 ^ k:=natOf_bitsN _ _
 have hlen:(bitsN (x/2 ^ (n-k)) k).length=k:=bitsN_len _ _
 by_cases hu:L.length %8=0
 ·have huL:used L=8:=by unfold used;rw [if_pos hu]
  have hmin:(if (8:Int)<n then (8:Int) else n)=k:=by split<;>omega
  have hblk:=h.blk
  rw [huL] at hblk
  refine (some_new w a v (pack L) hblk h.bs x n k (pack L).length hx hn hmin (by omega) (by omega) (by omega) rfl (by rw [pack_len];omega)).mono ?_
  rintro e w' ⟨he,v',hb',ho',hbe⟩
  refine ⟨he,v',⟨?_,?_⟩,hbe⟩
  ·rw [hb']
   have:used (L++bitsN (x/2 ^ (n-k)) k)=k:=by
    unfold used
    rw [List.length_append,hlen]
    split<;>omega
   rw [this]
  ·rw [pack_new hu (by rw [hlen];omega) (by rw [hlen];omega),hnat,hlen]
   exact ho'
 ·have huL:used L=L.length %8:=by unfold used;rw [if_neg hu]
  have hmin:(if (8:Int)-(L.length %8:Nat)<n then (8:Int)-(L.length %8:Nat) else n)=k:=by split<;>omega
  have hblk:=h.blk
  rw [huL] at hblk
  have hpl:=pack_len L
  obtain ⟨m,hm⟩: ∃m,(pack L).length=m+1:=⟨(pack L).length-1,by omega⟩
  have hlast:(pack L)[m]?=some ((pack L).getLastD 0):=by
   rw [List.getLastD_eq_getLast?,List.getLast?_eq_getElem?,hm]
   simp
   rw [List.getElem?_eq_getElem (by omega)]
   simp
  have hc8:(pack L).getLastD 0<256:=pack_lt L _ (List.mem_of_getElem? hlast)
  refine (some_core w a v (pack L) (L.length %8) hblk h.bs x n k m ((pack L).getLastD 0) hx hn hmin (by omega) (by omega) (by omega) (by omega) hm (by omega) hlast hc8).mono ?_
  rintro e w' ⟨he,hb',ho',hbe⟩
  refine ⟨he,v,⟨?_,?_⟩,hbe⟩
  ·rw [hb']
   have:used (L++bitsN (x/2 ^ (n-k)) k)=L.length %8+k:=by
    unfold used
    rw [List.length_append,hlen]
    split<;>omega
   rw [this]
  ·rw [pack_more (by omega) (by rw [hlen];omega),hnat,hlen,hm]
   exact ho'
theorem bits_step (x j k n:Nat) (hk:k≤j) (hj:j≤n):bitsN (x/2 ^ j) (n-j)++bitsN (x/2 ^ (j-k)) k=bitsN (x/2 ^ (j-k)) (n-(j-k)):=by
 rw [show n-(j-k)=n-j+k by omega,bitsN_add,Nat.div_div_eq_div_mul, ←Nat.pow_add,show j-k+k=j by omega]
theorem put_bits (w:World) (a:Nat) (v:Value) (L:List Bool) (h:WrAt w a v L) (x n:Nat) (hL:L.length+n≤400000) (hn:n≤64) (hx:x<2 ^ n):
  Calls Tryz.prog 125 #[.pointer (some ⟨a,0,none⟩), .int .u64 x, .int .i64 n] w
  fun e w'=>e= .returned (.pointer (some ⟨a,0,none⟩))∧ ∃v',WrAt w' a v' (L++bitsN x n)∧Below a w w'∧WMod a v w v' w':=by
 have hx64:x<2 ^ 64:=Nat.lt_of_lt_of_le hx (Nat.pow_le_pow_right (by decide) hn)
 have hc0:w.cell? ⟨a,0,none⟩=some (.bool true):=cell_of h.blk rfl
 have hc3:w.cell? ⟨a,3,none⟩=some (.int .i64 0):=cell_of h.blk rfl
 have hn':(n:Int)≤64:=by omega
 have hn0:(0:Int)≤n:=by omega
 have hdn:decide ((n:Int)<0)=false:=by simp
 have hdm:decide (64<(n:Int))=false:=by simp;omega
 have hdiv:(x:Int)/2 ^ n=0:=by
  have:x/2 ^ n=0:=Nat.div_eq_of_lt hx
  have e:(x:Int)/2 ^ n=((x/2 ^ n:Nat):Int):=by norm_cast
  rw [e,this]
  rfl
 have HX:=Lib.hid hx64
 have H:=Lib.hid h
 clear h hx hx64
 have h64:(n:Int)<64∨(64:Int)≤n:=by omega
 rcases h64 with h64|h64
 all_goals
  go_enter Tryz.func125,Tryz.ntmps125
  go_wp2_with fail
  clear hdiv hc0 hc3
  go_loopw [2] (fun jv wi=> ∃j:Nat,j≤n∧jv= .int .i64 j∧ ∃v',WrAt wi a v' (L++bitsN (x/2 ^ j) (n-j))∧Below a w wi∧WMod a v w v' wi) (fun jv _=>(intOf jv).toNat)
  case atStart=>
   refine ⟨n,Nat.le_refl _,rfl,v,?_,Below.refl _ _,WMod.refl _ _ _⟩
   rw [Nat.sub_self]
   simpa [bitsN] using H.out
  case round=>
   obtain ⟨j,hj,rfl,v',hw',hb',hmm⟩:=hrel
   have HMM:=Lib.hid hmm
   clear hmm
   by_cases hj0:0<j
   ·have hj0':(0:Int)<(j:Int):=by omega
    have hlen:(L++bitsN (x/2 ^ j) (n-j)).length=L.length+(n-j):=by rw [List.length_append,bitsN_len]
    obtain ⟨k,hk⟩: ∃k,min j (8-(L++bitsN (x/2 ^ j) (n-j)).length %8)=k:=⟨_,rfl⟩
    have hs:=some_bits wr a v' _ hw' (by omega) x j k HX.out (by omega) hj0 hk
    rw [List.append_assoc,bits_step x j k n (by omega) hj] at hs
    have HB:=Lib.hid hb'
    clear hw' hlen hb'
    go_wp2_with fail
    refine hs.mono ?_
    rintro e w5 ⟨rfl,v5,hw5,hb5,hm5⟩
    have HM5:=Lib.hid (HMM.out.trans hm5)
    clear hm5
    have HW5:=Lib.hid hw5
    have HB5:=Lib.hid (HB.out.trans hb5)
    clear hw5 hb5 hs
    go_wp2
    go_roundw
    case rel=>exact ⟨j-k,by omega,rfl,v5,HW5.out,HB5.out,HM5.out⟩
    case measure=>simp [intOf];omega
   ·obtain rfl:j=0:=by omega
    have HW:=Lib.hid hw'
    have HB:=Lib.hid hb'
    clear hw' hb'
    go_wp2
    go_ret
    refine ⟨rfl,v',?_,HB.out,HMM.out⟩
    have:=HW.out
    rw [Nat.pow_zero,Nat.div_one,Nat.sub_zero] at this
    exact this
set_option maxRecDepth 20000 in
theorem clone_any (w:World) (v:Value) (bs:List Nat) (h:LSl en8 1 w v bs) (hl:bs.length≤50000):Calls Tryz.prog 58 #[v] w
  fun e w'=> ∃v',e= .returned v'∧LOut en8 1 5 w.heap.size w' v' bs∧Below w.heap.size w w':=by
 have hsl:=h
 obtain ⟨ao,cap,rfl,h1,h2,h3⟩:=h
 have hnil:=fun w=>Lib.run_eql_slice_nil (P:=Tryz.prog) w 44 5 ao bs.length cap 0 0 Tryz.underlying44
 cases ao with
 | none=>
  have h0:bs= []:=by
   rcases bs with _|⟨x,bs⟩
   ·rfl
   ·obtain ⟨b,off,hb,_⟩:=h3 (by simp)
    cases hb
  subst h0
  clear hnil hsl h3 h1 hl
  simp only [List.length_nil,Int.ofNat_zero]
  have hnil:=fun w=>Lib.run_eql_slice_nil (P:=Tryz.prog) w 44 5 none 0 cap 0 0 Tryz.underlying44
  go_enter Tryz.func58,Tryz.ntmps58
  go_wp2
  go_ret
  exact ⟨_,rfl,LOut.nil (Nat.le_refl _),Below.refl _ _⟩
 | some p=>
  have hb:Below w.heap.size w (w.alloc (.cells #[] 5)):=(Below.refl _ _).alloc (Nat.le_refl _) _
  have hO:LOut en8 1 5 w.heap.size (w.alloc (.cells #[] 5)) (.slice (some ⟨w.heap.size,0,none⟩) 0 0) ([]:List Nat):=by
   have:=LOut.of_cells (en:=en8) (k:=1) (e:=5) (B:=w.heap.size) (w:=w.alloc (.cells #[] 5)) (b:=w.heap.size) (n:=0) (cap:=0) (xs:=([]:List Nat)) (cur:= #[]) rfl heap_alloc_at (Nat.le_refl _) (by unfold maxLen;decide) rfl rfl rfl (Nat.le_refl _) (by simp)
   exact this
  have hu:=hsl.below hb
  have hsz:([]:List Nat).length+bs.length≤100000:=by simp;omega
  clear hsl h3
  go_enter Tryz.func58,Tryz.ntmps58
  go_wp2_with (first
   | ((with_reducible refine wpList_appendN el8 hO hu hsz ?_ ?_ ?_);rfl;rfl;(intro v5 w5 hO5 hg5 hl5);go_frame)
   | fail)
  go_ret
  rw [List.nil_append] at hO5
  exact ⟨_,rfl,hO5,hb.grown hg5 (by simp) fun k hk=>by cases hk;exact Nat.le_refl _⟩
set_option maxRecDepth 20000 in
theorem done_any (w:World) (a:Nat) (v:Value) (L:List Bool) (h:WrAt w a v L) (hl:L.length≤400000):Calls Tryz.prog 127 #[.pointer (some ⟨a,0,none⟩)] w
  fun e w'=> ∃v',e= .returned (.tuple #[v', .int .i64 0])∧LOut en8 1 5 w.heap.size w' v' (pack L)∧Below w.heap.size w w':=by
 have hc0:w.cell? ⟨a,0,none⟩=some (.bool true):=cell_of h.blk rfl
 have hc1:w.cell? ⟨a,1,none⟩=some v:=cell_of h.blk rfl
 have hc3:w.cell? ⟨a,3,none⟩=some (.int .i64 0):=cell_of h.blk rfl
 have hcl:=clone_any w v (pack L) (h.bs.sl el8.len) (by rw [pack_len];omega)
 obtain ⟨ao,n,c,rfl⟩:=h.bs.shape
 clear h
 go_enter Tryz.func127,Tryz.ntmps127
 go_wp2_with fail
 refine hcl.mono ?_
 rintro e w2 ⟨v',rfl,hO,hb⟩
 have HO:=Lib.hid hO
 have HB:=Lib.hid hb
 obtain ⟨ao',n',c',rfl⟩:=hO.shape
 clear hO hb hcl
 go_wp2
 go_ret2
 exact ⟨_,rfl,HO.out,HB.out⟩
structure RdAt (w:World) (a:Nat) (v:Value) (B:List Nat) (at_ err:Nat):Prop where
 blk:w.heap[a]?=some (.cells #[.bool true,v, .int .i64 at_, .int .i64 err] 224 (0,0))
 bs:LOut en8 1 5 0 w v B
 ne: ∀r,v.ownBlock=some r→r≠a
 lt: ∀x∈B,x<256
 len:B.length≤50000
section
variable {w w':World} {a:Nat} {v:Value} {B:List Nat} {at_ err:Nat}
theorem RdAt.mod {S:Nat→Prop} (h:RdAt w a v B at_ err) (hm:Mod S w w') (h1:¬ S a) (h2: ∀r,v.ownBlock=some r→¬ S r):RdAt w' a v B at_ err:=
 ⟨hm.heap h.blk h1,h.bs.kept hm.size fun r hr=>hm.block r (h.bs.lt hr) (h2 r hr),h.ne,h.lt,h.len⟩
theorem RdAt.below (h:RdAt w a v B at_ err) (hb:Below w.heap.size w w'):RdAt w' a v B at_ err:=
 h.mod (Mod.of_below hb) (Nat.not_le.2 (lt_of_block h.blk)) fun r hr=>Nat.not_le.2 (h.bs.lt hr)
theorem RdAt.c0 (h:RdAt w a v B at_ err):w.cell? ⟨a,0,none⟩=some (.bool true):=cell_of h.blk rfl
theorem RdAt.c1 (h:RdAt w a v B at_ err):w.cell? ⟨a,1,none⟩=some v:=cell_of h.blk rfl
theorem RdAt.c2 (h:RdAt w a v B at_ err):w.cell? ⟨a,2,none⟩=some (.int .i64 at_):=cell_of h.blk rfl
theorem RdAt.c3 (h:RdAt w a v B at_ err):w.cell? ⟨a,3,none⟩=some (.int .i64 err):=cell_of h.blk rfl
theorem RdAt.sl (h:RdAt w a v B at_ err): ∃ao cap,v= .slice ao B.length cap∧(∀q c,B[q]?=some c→ ∃b off,ao=some ⟨b,off,none⟩∧w.cell? ⟨b,off+q,none⟩=some (.int .u8 (c:Nat))):=by
 obtain ⟨ao,cap,hv,h1,h2,h3⟩:=h.bs.sl el8.len
 refine ⟨ao,cap,hv,fun q c hc=> ?_⟩
 have hlt:=(List.getElem?_eq_some_iff.1 hc).1
 obtain ⟨b,off,ha,hb,hl⟩:=h3 (by omega)
 have:=hl q c hc 0 (by simp)
 rw [Nat.mul_one,Nat.add_zero] at this
 exact ⟨b,off,ha,this⟩
theorem rok_any (h:RdAt w a v B at_ err):Calls Tryz.prog 128 #[.pointer (some ⟨a,0,none⟩)] w fun e w'=>e= .returned (.bool true)∧w'=w:=by
 have c0:=h.c0
 go_enter Tryz.func128,Tryz.ntmps128
 go_wp2
 go_ret
 exact ⟨rfl,rfl⟩
theorem rerr_any (h:RdAt w a v B at_ err):Calls Tryz.prog 65 #[.pointer (some ⟨a,0,none⟩)] w fun e w'=>e= .returned (.int .i64 (err:Nat))∧w'=w:=by
 have c3:=h.c3
 have hok:=rok_any h
 go_enter Tryz.func65,Tryz.ntmps65
 go_wp2_with (go_at_call 128;refine hok.mono ?_;rintro e w ⟨rfl,rfl⟩)
 go_ret
 exact ⟨rfl,rfl⟩
structure LS (a:Nat) (ao:Option Addr) (n cap at_:Nat) (w:World):Prop where
 c1:w.cell? ⟨a,1,none⟩=some (.slice ao n cap)
 c2:w.cell? ⟨a,2,none⟩=some (.int .i64 at_)
theorem left_any (h:RdAt w a v B at_ 0) (hat:at_≤8*B.length):Calls Tryz.prog 122 #[.pointer (some ⟨a,0,none⟩)] w fun e w'=>e= .returned (.int .i64 ((8*B.length-at_:Nat):Int))∧Below w.heap.size w w':=by
 have herr:=rerr_any h
 obtain ⟨ao,cap,rfl,_⟩:=h.sl
 have hS:LS a ao B.length cap at_ w.drew:=⟨h.c1,h.c2⟩
 have hn:=h.len
 generalize B.length=n at*
 have hw1:IntKind.i64.wrap (8*(n:Int))=((8*n:Nat):Int):=by rw [IntWalk.i64_in _ (by omega)];omega
 have hw2:IntKind.i64.wrap (((8*n:Nat):Int)-at_)=((8*n-at_:Nat):Int):=by rw [IntWalk.i64_in _ (by omega)];omega
 generalize 8*n=m at*
 clear h
 go_enter Tryz.func122,Tryz.ntmps122
 go_upto_region 3 with (go_at_call 65;refine herr.mono ?_;rintro e w2 ⟨rfl,hw⟩;obtain rfl:=hw.symm;clear hw)
 refine wp_region_x (LS a ao n cap at_) [(0,1),(1,1),(2,1),(3,0),(4,1),(5,1),(6,1),(7,1),(8,1),(9,0),(10,1),(11,1)] (by kernel_rfl) (by kernel_rfl) (by intro d v c a w h;cases d<;>exact h) ?_
 iterate 3 (refine x_take rfl (fun K hK=> ?_);go_simp;refine hK _ ?_;clear hK K)
 refine x_read rfl hS (fun w' h=>exec_load1 ⟨⟨_,Tryz.underlying44,rfl⟩⟩ rfl h.c1) ?_
 iterate 5 (refine x_take rfl (fun K hK=> ?_);go_simp;refine hK _ ?_;clear hK K)
 refine x_read rfl hS (fun w' h=>exec_load1 ⟨⟨_,Tryz.underlying3,rfl⟩⟩ rfl h.c2) ?_
 iterate 2 (refine x_take rfl (fun K hK=> ?_);go_simp;refine hK _ ?_;clear hK K)
 refine x_nil ?_
 go_wp2
 go_ret
 exact ⟨rfl,(Below.refl _ _).drew⟩
end
theorem ropen_any (w:World) (v:Value) (B:List Nat) (h:LSl en8 1 w v B) (hlt: ∀x∈B,x<256) (hl:B.length≤50000):Calls Tryz.prog 62 #[v] w
  fun e w'=> ∃a v',e= .returned (.pointer (some ⟨a,0,none⟩))∧RdAt w' a v' B 0 0∧w.heap.size≤a∧(∀r,v'.ownBlock=some r→w.heap.size≤r)∧Below w.heap.size w w':=by
 have hcl:=clone_any w v B h hl
 obtain ⟨ao,cap,rfl,_⟩:=h
 go_enter Tryz.func62,Tryz.ntmps62
 go_wp2_with fail
 refine hcl.mono ?_
 rintro e w2 ⟨v',rfl,hO,hb⟩
 have HO:=Lib.hid hO
 have HB:=Lib.hid hb
 obtain ⟨ao',n',c',rfl⟩:=hO.shape
 clear hO hb hcl
 go_wp2
 go_ret
 have hO:=HO.out
 have hal:Below w2.heap.size w2 (w2.alloc (.cells #[.bool true, .slice ao' n' c', .int .i64 0, .int .i64 0] 224)):=(Below.refl _ _).alloc (Nat.le_refl _) _
 exact ⟨_,_,rfl,⟨heap_alloc_at,(hO.below hal).mono (Nat.zero_le _),fun r hr=>by have:=hO.lt hr;omega,hlt,hl⟩,HB.out.size,hO.lo,HB.out.alloc HB.out.size _⟩
structure GS (a b off q:Nat) (n cap p c:Nat) (w:World):Prop where
 c1:w.cell? ⟨a,1,none⟩=some (.slice (some ⟨b,off,none⟩) n cap)
 c2:w.cell? ⟨a,2,none⟩=some (.int .i64 p)
 cb:w.cell? ⟨b,off+q,none⟩=some (.int .u8 (c:Nat))
section
variable {w:World} {a:Nat} {v:Value} {B:List Nat} {at_:Nat}
set_option maxRecDepth 20000 in
set_option maxHeartbeats 1000000 in
theorem get_ok (h:RdAt w a v B at_ 0) (n:Nat) (hn:n≤64) (hat:at_+n≤8*B.length):Calls Tryz.prog 63 #[.pointer (some ⟨a,0,none⟩), .int .i64 n] w
  fun e w'=>e= .returned (.int .u64 ((natOf (((unpack B).drop at_).take n):Nat):Int))∧RdAt w' a v B (at_+n) 0∧Mod (fun x=>x=a) w w':=by
 have herr:=rerr_any h
 have hleft:=left_any h (by omega)
 have hB:=h.len
 have hle:n≤8*B.length-at_:=by omega
 generalize 8*B.length-at_=lf at*
 have hlfn:decide (lf<n)=false:=by simp;omega
 have hlfn':¬ lf<n:=by omega
 have hn':(n:Int)≤64:=by omega
 have hn0:(0:Int)≤n:=by omega
 have hdn:decide ((n:Int)<0)=false:=by simp
 have hdm:decide (64<(n:Int))=false:=by simp;omega
 have H:=Lib.hid h
 clear h
 go_enter Tryz.func63,Tryz.ntmps63
 go_wp2_with fail
 refine herr.mono ?_
 rintro e w2 ⟨rfl,hw⟩
 obtain rfl:=hw.symm
 clear hw herr
 go_wp2_with fail
 refine hleft.mono ?_
 rintro e w2 ⟨rfl,hb2⟩
 have h2:=H.out.below hb2
 have hm2:Mod (fun x=>x=a) w w2:=(Mod.of_below hb2).mono fun x hx h=>absurd h (Nat.not_le.2 hx)
 clear hleft hb2
 go_wp2_with fail
 go_loopw [1,5] (fun jv xv wi=> ∃j:Nat,j≤n∧jv= .int .i64 j∧xv= .int .u64 ((natOf (((unpack B).drop at_).take (n-j)):Nat):Int)∧RdAt wi a v B (at_+(n-j)) 0∧Mod (fun x=>x=a) w wi) (fun jv _ _=>(intOf jv).toNat)
 case atStart=>
  refine ⟨n,Nat.le_refl _,rfl,?_,?_,hm2⟩
  ·simp [natOf]
  ·rw [Nat.sub_self,Nat.add_zero]
   exact h2
 case round=>
  obtain ⟨j,hj,rfl,rfl,hr,hm⟩:=hrel
  have hpe:at_+(n-j)=at_+(n-j):=rfl
  by_cases hj0:0<j
  ·have hj0':(0:Int)<(j:Int):=by omega
   obtain ⟨p,hp⟩: ∃p,at_+(n-j)=p:=⟨_,rfl⟩
   rw [hp] at hr
   have hpl:p<8*B.length:=by omega
   have hand:=and7 p (by omega)
   have hpp:p<9223372036854775808:=by omega
   obtain ⟨t,ht⟩: ∃t,p %8=t:=⟨_,rfl⟩
   rw [ht] at hand
   have ht8:t<8:=by omega
   obtain ⟨k,hk⟩: ∃k,min j (8-t)=k:=⟨_,rfl⟩
   have hmin:(if (8:Int)-t<j then (8:Int)-t else j)=k:=by split<;>omega
   obtain ⟨c,hc⟩: ∃c,B[p/8]?=some c:=⟨B[p/8]'(by omega),List.getElem?_eq_getElem _⟩
   have hc8:=hr.lt c (List.mem_of_getElem? hc)
   obtain ⟨ao,cap,hv,hcell⟩:=hr.sl
   obtain ⟨b,off,rfl,hcb⟩:=hcell _ c hc
   subst hv
   have c2:=hr.c2
   have hfz: ∀o,wr.frozen? ⟨a,o,none⟩=false:=fun o=>free_of hr.blk
   have hS:GS a b off (p/8) B.length cap p c wr.drew:=⟨hr.c1,hr.c2,hcb⟩
   have HR:=Lib.hid hr
   have HM:=Lib.hid hm
   have ht8':(t:Int)<8:=by omega
   have hk0:(0:Int)≤k:=by omega
   have hkt:(k:Int)≤8-t:=by omega
   have hkj:(k:Int)≤j:=by omega
   have hX:natOf (((unpack B).drop at_).take (n-j))<2 ^ (n-j):=by
    have h1:=natOf_lt (((unpack B).drop at_).take (n-j))
    have h2:(((unpack B).drop at_).take (n-j)).length=n-j:=by rw [List.length_take,List.length_drop,unpack_len];omega
    rw [h2] at h1
    exact h1
   have hnew:natOf (((unpack B).drop at_).take (n-(j-k)))=natOf (((unpack B).drop at_).take (n-j))*2 ^ k+c/2 ^ (8-t-k) %2 ^ k:=by
    rw [show n-(j-k)=n-j+k by omega,take_more,natOf_append,hp]
    have hu:=unpack_at (t:=t) (k:=k) hc (by omega)
    rw [show 8*(p/8)+t=p by omega] at hu
    rw [hu,natOf_bitsN,bitsN_len]
   have hE:bits .and .u8 ((c:Int)/2 ^ min (8-t-k) 8) (IntKind.u8.wrap (IntKind.u8.wrap ((2:Int) ^ k)-1))=((c/2 ^ (8-t-k) %2 ^ k:Nat):Int):=by
    have h1:1≤2 ^ k:=Nat.one_le_two_pow
    have h2:2 ^ k≤2 ^ 8:=Nat.pow_le_pow_right (by decide) (by omega)
    have e1:(c:Int)/2 ^ min (8-t-k) 8=((c/2 ^ (8-t-k):Nat):Int):=by
     rw [Nat.min_eq_left (by omega)]
     norm_cast
    have e2:IntKind.u8.wrap (IntKind.u8.wrap ((2:Int) ^ k)-1)=((2 ^ k-1:Nat):Int):=by
     have e:((2:Int) ^ k)=((2 ^ k:Nat):Int):=by norm_cast
     rw [e,IntKind.wrap_u8,IntKind.wrap_u8]
     omega
    rw [e1,e2,and8 _ _ (Nat.lt_of_le_of_lt (Nat.div_le_self _ _) hc8) (by omega),Nat.and_two_pow_sub_one_eq_mod]
   have hrk:c/2 ^ (8-t-k) %2 ^ k<2 ^ k:=Nat.mod_lt _ (Nat.two_pow_pos _)
   have hE2:bits .or .u64 (IntKind.u64.wrap (((natOf (((unpack B).drop at_).take (n-j)):Nat):Int)*2 ^ k)) ((c/2 ^ (8-t-k) %2 ^ k:Nat):Int)=((natOf (((unpack B).drop at_).take (n-(j-k))):Nat):Int):=by
    have h64:natOf (((unpack B).drop at_).take (n-j))*2 ^ k<2 ^ 64:=by
     calc natOf (((unpack B).drop at_).take (n-j))*2 ^ k<2 ^ (n-j)*2 ^ k:=(Nat.mul_lt_mul_right (Nat.two_pow_pos _)).2 hX
      _=2 ^ (n-j+k):=by rw [←Nat.pow_add]
      _≤2 ^ 64:=Nat.pow_le_pow_right (by decide) (by omega)
    have h8:c/2 ^ (8-t-k) %2 ^ k<2 ^ 64:=Nat.lt_of_lt_of_le hrk (Nat.pow_le_pow_right (by decide) (by omega))
    rw [hnew]
    have e:(((natOf (((unpack B).drop at_).take (n-j)):Nat):Int)*2 ^ k)=((natOf (((unpack B).drop at_).take (n-j))*2 ^ k:Nat):Int):=by norm_cast
    rw [e,Bt.wrap64,Nat.mod_eq_of_lt h64,or64 _ _ h64 h8,or_add _ _ _ hrk]
   have hr256:c/2 ^ (8-t-k) %2 ^ k<256:=Nat.lt_of_lt_of_le hrk (show 2 ^ k≤2 ^ 8 from Nat.pow_le_pow_right (by decide) (by omega))
   have hwk:IntKind.i64.wrap (8-(t:Int)-k)=((8-t-k:Nat):Int):=by rw [IntWalk.i64_in _ (by omega)];omega
   have hp8:(p:Int)/8=((p/8:Nat):Int):=by omega
   have hq0:(0:Int)≤((p/8:Nat):Int):=by omega
   have hq1:((p/8:Nat):Int)<(B.length:Int):=by omega
   have HNW:=Lib.hid (rfl:natOf (((unpack B).drop at_).take (n-(j-k)))=natOf (((unpack B).drop at_).take (n-(j-k))))
   have hpk:at_+(n-(j-k))=p+k:=by omega
   have hpl':(p:Int)≤400000:=by omega
   generalize c/2 ^ (8-t-k) %2 ^ k=r at*
   generalize 8-t-k=d at*
   generalize p/8=q at*
   obtain ⟨X',hX'⟩: ∃X',natOf (((unpack B).drop at_).take (n-(j-k)))=X':=⟨_,rfl⟩
   rw [hX'] at hE2
   obtain ⟨X,hXX⟩: ∃X,natOf (((unpack B).drop at_).take (n-j))=X:=⟨_,rfl⟩
   rw [hXX] at hE2 ⊢
   have HX':=Lib.hid hX'
   have HPK:=Lib.hid hpk
   clear hr hm hcell hcb h2 hm2 hpe hX hnew hrk HNW hXX hX' hpk hp hpl ht hk hc hc8
   go_upto_region 13 with fail
   refine wp_region_x (GS a b off q B.length cap p c) [(0,1),(1,1),(2,1),(3,0),(4,1),(5,1),(6,1),(7,0),(8,1),(9,1),(10,0),(11,1),(12,1),(13,1),(14,1),(15,1),(16,1),(17,1),(18,1),(19,1)] (by kernel_rfl) (by kernel_rfl) (by intro d v c a w h;cases d<;>exact h) ?_
   iterate 3 (refine x_take rfl (fun K hK=> ?_);go_simp;refine hK _ ?_;clear hK K)
   refine x_read rfl hS (fun w' h=>exec_load1 ⟨⟨_,Tryz.underlying44,rfl⟩⟩ rfl h.c1) ?_
   iterate 3 (refine x_take rfl (fun K hK=> ?_);go_simp;refine hK _ ?_;clear hK K)
   refine x_read rfl hS (fun w' h=>exec_load1 ⟨⟨_,Tryz.underlying3,rfl⟩⟩ rfl h.c2) ?_
   iterate 2 (refine x_take rfl (fun K hK=> ?_);go_simp;refine hK _ ?_;clear hK K)
   refine x_read rfl hS (fun w' h=>exec_load1 ⟨⟨_,Tryz.underlying5,rfl⟩⟩ rfl h.cb) ?_
   iterate 9 (refine x_take rfl (fun K hK=> ?_);go_simp;refine hK _ ?_;clear hK K)
   refine x_nil ?_
   go_wp2
   go_roundw
   case rel=>
    have hm:=(Mod.refl (fun x=>x=a) wr).setCell ⟨a,2,none⟩ (.int .i64 ((p:Int)+k)) fun _=>rfl
    have hr:=HR.out
    refine ⟨j-k,by omega,?_,by rw [HX'.out],?_,?_⟩
    ·go_num
    ·rw [HPK.out]
     exact ⟨heap_setCell_at (o:=2) (v:= .int .i64 ((p+k:Nat):Int)) hr.blk,hr.bs.kept hm.size fun r hr'=>hm.block r (hr.bs.lt hr') (hr.ne r hr'),hr.ne,hr.lt,hr.len⟩
    ·exact HM.out.trans hm.drew (fun _ h=>h) fun _ _ h=>h
   case measure=>simp [intOf];omega
  ·obtain rfl:j=0:=by omega
   have HR:=Lib.hid hr
   have HM:=Lib.hid hm
   clear hr hm h2 hm2
   rw [Nat.sub_zero] at HR ⊢
   go_wp2
   go_ret
   exact ⟨rfl,HR.out,HM.out⟩
end
end Go.Proofs.YtjdbbnhnbdocbaaGreat
