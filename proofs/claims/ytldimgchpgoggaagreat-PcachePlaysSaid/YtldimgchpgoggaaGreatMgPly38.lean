/- Proved: PcachePlays returns true and its arguments read as they did. No condition: of all numbers and calls. -/
import Derived.Test.YtldimgchpgoggaaGreatMgPly37
import Derived.Deep.DeepCutAuto
import Derived.Deep.CutBlock
import Derived.Test.YtldimgchpgoggaaGreatMgPly20
import Derived.WalkKit
import Derived.Below
import Derived.ProofKit
import Derived.OpenShut
import Derived.ShutString
import Derived.ChangeOld
import Derived.Lib.SmallJoins
namespace Go.Proofs.YtldimgchpgoggaaGreat
open Go.RowKit Go.Tn Go.Tn.Bt Go.Tn.Lp Go.Tn.Dk Go.Tn.Ino Go.Tn.Slo Go.Tn.Ck Go.Tn.Pc
section
variable {w w' : World}
set_option maxRecDepth 20000 in
set_option maxHeartbeats 8000000 in
theorem xsame_any {v u : Value} {xs ys : List Slt} (h : LSl enSl 7 w v xs) (h2 : LSl enSl 7 w u ys) (hl : xs.length ≤ 64) (hl2 : ys.length ≤ 64) : Calls Tryz.prog 23 #[v, u] w fun e w' => e = .returned (.bool (decide (xs = ys))) ∧ Below w.heap.size w w' := by
 have hsl := h
 have hsl2 := h2
 obtain ⟨ao, cap, rfl, hl1, hlc, hvc⟩ := h
 obtain ⟨ao2, cap2, rfl, hl3, hlc2, hvc2⟩ := h2
 have HSL := Lib.hid hsl
 have HSL2 := Lib.hid hsl2
 clear hsl hvc hsl2 hvc2
 by_cases hlen : xs.length = ys.length
 · obtain ⟨n, hn⟩ : ∃ n, xs.length = n := ⟨_, rfl⟩
   have hm : ys.length = n := by omega
   have HN := Lib.hid hn
   have HM := Lib.hid hm
   have hn64 : n ≤ 64 := by omega
   rw [hn, hm]
   clear hl hl2 hl1 hl3 hlc hlc2 hlen hn hm
   go_enter Tryz.func23, Tryz.ntmps23
   go_wp2
   go_loopw [5] (fun iv wi => ∃ k : Nat, k ≤ n ∧ iv = .int .i64 k ∧ (∀ j, j < k → xs[j]? = ys[j]?) ∧ Below w.heap.size w wi) (fun iv _ => n - (intOf iv).toNat)
   case atStart => exact ⟨0, Nat.zero_le _, rfl, fun j hj => absurd hj (Nat.not_lt_zero j), Below.refl _ _⟩
   case round =>
     obtain ⟨k, hk, rfl, hsm, hb⟩ := hrel
     have HB := Lib.hid hb
     have HSM := Lib.hid hsm
     clear hb hsm
     by_cases hkl : k < n
     · have hkl' : (k : Int) < (n : Int) := by omega
       have hkx : k < xs.length := by rw [HN.out]; exact hkl
       have hky : k < ys.length := by rw [HM.out]; exact hkl
       have hgp : xs[k]? = some xs[k] := List.getElem?_eq_getElem hkx
       have hgq : ys[k]? = some ys[k] := List.getElem?_eq_getElem hky
       obtain ⟨b5, o5, cap6, hveq, hb5, hco⟩ := HSL.out.at_ hgp
       obtain ⟨rfl, rfl⟩ : ao = some ⟨b5, o5, none⟩ ∧ cap = cap6 := by simpa using hveq
       obtain ⟨b7, o7, cap8, hveq2, hb7, hcoy⟩ := HSL2.out.at_ hgq
       obtain ⟨rfl, rfl⟩ : ao2 = some ⟨b7, o7, none⟩ ∧ cap2 = cap8 := by simpa using hveq2
       obtain ⟨y, hy⟩ : ∃ y, xs[k] = y := ⟨_, rfl⟩
       obtain ⟨z, hz⟩ : ∃ z, ys[k] = z := ⟨_, rfl⟩
       rw [hy] at hgp hco
       rw [hz] at hgq hcoy
       have hco2 : Lies w b5 (o5 + k * 7) (slC y) := hco
       have hcoy2 : Lies w b7 (o7 + k * 7) (slC z) := hcoy
       have hLy : Lies wr.drew b5 (o5 + k * 7) (slC y) := hco2.below' HB.out.drew hb5
       have hLz : Lies wr.drew b7 (o7 + k * 7) (slC z) := hcoy2.below' HB.out.drew hb7
       have hS : Lies wr.drew b5 (o5 + k * 7) (slC y) ∧ Lies wr.drew b7 (o7 + k * 7) (slC z) := ⟨hLy, hLz⟩
       have hgt : Tryz.prog.eqGuardType Tryz.prog.depth 38 = false := by kernel_rfl
       have heq := fun w => eqXs w y z
       have HG := Lib.hid hgp
       have HG2 := Lib.hid hgq
       have hbd : Below w.heap.size w wr.drew := HB.out.drew
       have HBD := Lib.hid hbd
       clear hveq hveq2 hgp hgq hco hco2 hcoy hcoy2 hLy hLz hy hz hbd
       go_upto_region 6 with fail
       refine wp_region_x (fun w' => Lies w' b5 (o5 + k * 7) (slC y) ∧ Lies w' b7 (o7 + k * 7) (slC z)) [(0, 1), (1, 1), (2, 1), (3, 0), (4, 1), (5, 1), (6, 1), (7, 0), (8, 1)] (by kernel_rfl) (by kernel_rfl) (by intro d v c a w h; cases d <;> exact h) ?_
       iterate 3 (refine x_take rfl (fun K hK => ?_); go_simp; refine hK _ ?_; clear hK K)
       refine x_read rfl hS (fun w' h => exec_loadA (aggXs y) rfl h.1) ?_
       iterate 3 (refine x_take rfl (fun K hK => ?_); go_simp; refine hK _ ?_; clear hK K)
       refine x_read rfl hS (fun w' h => exec_loadA (aggXs z) rfl h.2) ?_
       refine x_take rfl (fun K hK => ⟨_, fun w => exec_neqS hgt heq rfl rfl w, ?_⟩)
       refine hK _ ?_
       clear hK K hS heq
       refine x_nil ?_
       by_cases hyz : y = z
       · rw [show decide (y = z) = true from decide_eq_true hyz]
         have HYZ := Lib.hid hyz
         clear hyz
         go_wp2
         go_roundw
         case rel => exact ⟨k + 1, by omega, by go_num, fun j hj => by
           by_cases hjk : j = k
           · rw [hjk, HG.out, HG2.out, HYZ.out]
           · exact HSM.out j (by omega), HBD.out⟩
         case measure => simp [intOf]; omega
       · rw [show decide (y = z) = false from decide_eq_false hyz]
         have hne : decide (xs = ys) = false := decide_eq_false fun e => by
           subst e
           have h1 := HG.out
           rw [HG2.out] at h1
           exact hyz (Option.some.inj h1).symm
         have HNE := Lib.hid hne
         clear hyz hne
         go_wp2
         go_ret
         rw [HNE.out]
         exact ⟨rfl, HBD.out⟩
     · obtain rfl : k = n := by omega
       have hyes : decide (xs = ys) = true := decide_eq_true (List.ext_getElem? fun j => by
         by_cases hj : j < k
         · exact HSM.out j hj
         · rw [List.getElem?_eq_none (by rw [HN.out]; omega), List.getElem?_eq_none (by rw [HM.out]; omega)])
       have HY := Lib.hid hyes
       clear hyes
       go_wp2
       go_ret
       rw [HY.out]
       exact ⟨rfl, HB.out⟩
 · have hne : decide (xs = ys) = false := decide_eq_false fun e => hlen (by rw [e])
   have HNE := Lib.hid hne
   have hne2 : ((xs.length : Int) != (ys.length : Int)) = true := by simpa using (show ¬ (xs.length : Int) = (ys.length : Int) by omega)
   clear hne hlen
   go_enter Tryz.func23, Tryz.ntmps23
   go_wp2
   go_ret
   rw [HNE.out]
   exact ⟨rfl, Below.refl _ _⟩
end
end Go.Proofs.YtldimgchpgoggaaGreat
namespace Go.Tn.Pc
open Go.Tn Go.Tn.Slo Go.Tn.Ck Go.Tn.Dk
def PC.like (c d : PC) : Prop := (∀ x, c.has qAll x ↔ d.has qAll x) ∧ c.num = d.num
theorem PC.like.refl (c : PC) : c.like c := ⟨fun _ => Iff.rfl, rfl⟩
theorem has_ff {c : PC} (f : Int × Int) (x : Slt) : c.has (qX false false f) x ↔ c.has qAll x := by
 unfold PC.has qX qAll
 simp
theorem has_tf {c : PC} (f : Int × Int) (x : Slt) : c.has (qX true false f) x ↔ c.has qAll x ∧ x.dirty = true := by
 unfold PC.has qX qAll
 simp [and_assoc]
theorem has_ft {c : PC} (f : Int × Int) (x : Slt) : c.has (qX false true f) x ↔ c.has (qFile f) x := by
 unfold PC.has qX
 simp
theorem has_dirty {c : PC} (x : Slt) : c.has qDirty x ↔ c.has qAll x ∧ x.dirty = true := by
 unfold PC.has qDirty qAll
 simp [and_assoc]
end Go.Tn.Pc
namespace Go.Proofs.YtldimgchpgoggaaGreat
open Go.RowKit Go.Tn Go.Tn.Bt Go.Tn.Lp Go.Tn.Dk Go.Tn.Ino Go.Tn.Slo Go.Tn.Ck Go.Tn.Pc
section
variable {w0 w w' : World} {I : Lg → Dsk → Prop} {c p : Nat} {P P2 : PC} {G : Nat → Prop} {X : XA}
set_option maxRecDepth 20000 in
set_option maxHeartbeats 8000000 in
theorem lsame_any (h : PSt w0 I c p P G w) (hx : XAt w X P2) : Calls Tryz.prog 22 #[.pointer (some ⟨c, 0, none⟩), .pointer (some ⟨X.c, 0, none⟩)] w
   fun e w' => ∃ b : Bool, e = .returned (.bool b) ∧ (b = true ↔ P.like P2) ∧ Below w.heap.size w w' := by
 have HP := Lib.hid h
 have HX := Lib.hid hx
 clear h hx
 go_enter Tryz.func22, Tryz.ntmps22
 go_upto_region 1 with fail
 have hS : Below w.heap.size w w.drew := (Below.refl _ _).drew
 refine wp_region_g (fun w' => Below w.heap.size w w') [(0, 1), (3, 1), (4, 1), (1, 2), (2, 2), (5, 2), (6, 2), (7, 1), (8, 1), (11, 1), (12, 1), (9, 2), (10, 2), (13, 2), (14, 2), (15, 1), (16, 1), (17, 1), (19, 1), (20, 1), (21, 1), (22, 0), (18, 2), (23, 1), (24, 1), (25, 1)] (by kernel_rfl) (by kernel_rfl) (by intro d v c a w h; cases d <;> exact h) ?_
 iterate 3 (refine g_take rfl rfl (fun K hK => ?_); go_simp; refine hK _ ?_; clear hK K)
 refine g_show' rfl rfl (fun K hK => ?_)
 go_simp
 refine (HP.out.below hS).all.mono ?_
 rintro e w1 ⟨v1, is1, rfl, hby1, hl1, hO1, hb1⟩
 have hS1 := hS.trans (hb1.mono hS.size)
 refine hK _ _ hS1 ?_
 clear hK K
 refine g_show' rfl rfl (fun K hK => ?_)
 go_simp
 refine (xplain_any (hO1.sl elSl.len) (by rw [List.length_map]; exact hl1)).mono ?_
 rintro e w2 ⟨v2, rfl, hO2, hb2⟩
 have hS2 := hS1.trans (hb2.mono hS1.size)
 refine hK _ _ hS2 ?_
 clear hK K
 refine g_show' rfl rfl (fun K hK => ?_)
 go_simp
 refine (xall_any (HX.out.below hS2) false false (0, 0)).mono ?_
 rintro e w3 ⟨v3, ys, rfl, hsb3, hl3, hO3, hb3⟩
 have hS3 := hS2.trans (hb3.mono hS2.size)
 refine hK _ _ hS3 ?_
 clear hK K
 refine g_show' rfl rfl (fun K hK => ?_)
 go_simp
 refine (xsame_any ((hO2.sl elXs.len).below hb3) (hO3.sl elXs.len) (by rw [List.length_map]; exact hl1) hl3).mono ?_
 rintro e w4 ⟨rfl, hb4⟩
 have hS4 := hS3.trans (hb4.mono hS3.size)
 refine hK _ _ hS4 ?_
 clear hK K
 have hq1 : is1.map P.at_ = ys ↔ ∀ x, P.has qAll x ↔ P2.has qAll x := by
   have k1 := hby1.slots
   have k2 := hsb3.congr (has_ff (0, 0))
   constructor
   · intro e x
     rw [← k1.mem, ← k2.mem, e]
   · intro e
     exact k1.uniq (k2.congr fun x => (e x).symm)
 obtain ⟨b1, hb1'⟩ : ∃ b1, decide (is1.map P.at_ = ys) = b1 := ⟨_, rfl⟩
 rw [hb1']
 have HQ1 := Lib.hid hq1
 have HBB := Lib.hid hb1'
 clear hS hS1 hS2 hS3 hO1 hO2 hO3 hb1 hb2 hb3 hb4 hq1 hb1' hby1 hsb3
 iterate 1 (refine g_take rfl rfl (fun K hK => ?_); go_simp; refine hK _ ?_; clear hK K)
 cases b1 with
 | false =>
   have hno : ¬ P.like P2 := fun e => (of_decide_eq_false HBB.out) (HQ1.out.2 e.1)
   have HNO := Lib.hid hno
   clear hno
   iterate 7 (refine g_offK rfl rfl (fun _ => hS4) (fun K hK => ?_); go_simp; refine hK _ ?_; clear hK K)
   iterate 2 (refine g_take rfl rfl (fun K hK => ?_); go_simp; refine hK _ ?_; clear hK K)
   iterate 7 (refine g_offK rfl rfl (fun _ => hS4) (fun K hK => ?_); go_simp; refine hK _ ?_; clear hK K)
   iterate 2 (refine g_take rfl rfl (fun K hK => ?_); go_simp; refine hK _ ?_; clear hK K)
   refine g_nil ?_
   have HS4 := Lib.hid hS4
   clear hS4
   go_wp2
   go_ret
   exact ⟨false, rfl, ⟨fun e => by (cases e), fun e => absurd e HNO.out⟩, HS4.out⟩
 | true =>
   have hsame := HQ1.out.1 (of_decide_eq_true HBB.out)
   iterate 3 (refine g_take rfl rfl (fun K hK => ?_); go_simp; refine hK _ ?_; clear hK K)
   refine g_show' rfl rfl (fun K hK => ?_)
   go_simp
   refine (HP.out.below hS4).dirty.mono ?_
   rintro e w5 ⟨v5, is5, rfl, hby5, hl5, hO5, hb5⟩
   have hS5 := hS4.trans (hb5.mono hS4.size)
   refine hK _ _ hS5 ?_
   clear hK K
   refine g_show' rfl rfl (fun K hK => ?_)
   go_simp
   refine (xplain_any (hO5.sl elSl.len) (by rw [List.length_map]; exact hl5)).mono ?_
   rintro e w6 ⟨v6, rfl, hO6, hb6⟩
   have hS6 := hS5.trans (hb6.mono hS5.size)
   refine hK _ _ hS6 ?_
   clear hK K
   refine g_show' rfl rfl (fun K hK => ?_)
   go_simp
   refine (xall_any (HX.out.below hS6) true false (0, 0)).mono ?_
   rintro e w7 ⟨v7, zs, rfl, hsb7, hl7, hO7, hb7⟩
   have hS7 := hS6.trans (hb7.mono hS6.size)
   refine hK _ _ hS7 ?_
   clear hK K
   refine g_show' rfl rfl (fun K hK => ?_)
   go_simp
   refine (xsame_any ((hO6.sl elXs.len).below hb7) (hO7.sl elXs.len) (by rw [List.length_map]; exact hl5) hl7).mono ?_
   rintro e w8 ⟨rfl, hb8⟩
   have hS8 := hS7.trans (hb8.mono hS7.size)
   refine hK _ _ hS8 ?_
   clear hK K
   have hq2 : is5.map P.at_ = zs := by
     have k1 := hby5.slots
     exact k1.uniq (hsb7.congr fun x => by rw [has_tf, has_dirty, hsame x])
   rw [decide_eq_true hq2]
   have HSM := Lib.hid hsame
   clear hS4 hS5 hS6 hS7 hO5 hO6 hO7 hb5 hb6 hb7 hb8 hq2 hby5 hsb7 hsame
   iterate 2 (refine g_take rfl rfl (fun K hK => ?_); go_simp; refine hK _ ?_; clear hK K)
   iterate 4 (refine g_take rfl rfl (fun K hK => ?_); go_simp; refine hK _ ?_; clear hK K)
   refine g_read rfl rfl hS8 (fun w' h => exec_load1 ⟨⟨_, Tryz.underlying36, rfl⟩⟩ rfl ((HX.out.below h).c2)) ?_
   refine g_show' rfl rfl (fun K hK => ?_)
   go_simp
   refine (HP.out.below hS8).number.mono ?_
   rintro e w9 ⟨rfl, hw9⟩
   obtain rfl := hw9.symm
   refine hK _ _ hS8 ?_
   clear hK K hw9
   iterate 3 (refine g_take rfl rfl (fun K hK => ?_); go_simp; refine hK _ ?_; clear hK K)
   refine g_nil ?_
   have hfin : ((P.num : Int) == (P2.num : Int)) = true ↔ P.like P2 := by
     rw [beq_iff_eq]
     constructor
     · intro e
       exact ⟨HSM.out, by omega⟩
     · intro e
       rw [e.2]
   have HS8 := Lib.hid hS8
   have HFI := Lib.hid hfin
   clear hS8 hfin
   go_wp2
   go_ret
   exact ⟨_, rfl, HFI.out, HS8.out⟩
end
end Go.Proofs.YtldimgchpgoggaaGreat
namespace Go.Proofs.YtldimgchpgoggaaGreat
open Go.RowKit Go.Tn Go.Tn.Bt Go.Tn.Lp Go.Tn.Dk Go.Tn.Ino Go.Tn.Slo Go.Tn.Ck Go.Tn.Pc
section
variable {w w' : World} {X : XA} {P : PC}
set_option maxRecDepth 20000 in
set_option maxHeartbeats 8000000 in
theorem xopen_any (h : XAt w X P) : Calls Tryz.prog 21 #[.pointer (some ⟨X.c, 0, none⟩)] w
   fun e w' => ∃ Y : XA, e = .returned (.pointer (some ⟨Y.c, 0, none⟩)) ∧ XAt w' Y (PC.opened P.L P.num P.L.length) ∧ Below w.heap.size w w' ∧ ∀ b, Y.own b → w.heap.size ≤ b := by
 obtain ⟨n, hn⟩ : ∃ n, P.L.length = n := ⟨_, rfl⟩
 have hn64 : n ≤ 64 := by have := h.n64; omega
 have hn1 : 1 ≤ n := by have := h.ring.lo; have := h.ok.len; omega
 have c0 : w.cell? ⟨X.c, 0, none⟩ = some (.slice (some ⟨X.sb, 0, none⟩) n n) := by rw [← hn]; exact h.c0
 have hnw := xnew_any w n hn1 hn64
 have HH := Lib.hid h
 have HN := Lib.hid hn
 clear h hn
 go_enter Tryz.func21, Tryz.ntmps21
 go_wp2_with fail
 refine hnw.mono ?_
 rintro e w2 ⟨Y, rfl, hY, hb2, hown⟩
 have c2 := (HH.out.below hb2).c2
 have g2 : w2.frozen? ⟨Y.c, 2, none⟩ = false := free_of hY.blk
 have g0 := hY.c2
 have hnum := hY.numbered P.num
 have HB2 := Lib.hid hb2
 have HOWN := Lib.hid hown
 have HNUM := Lib.hid hnum
 clear hnw hY hb2 hown hnum c0
 go_upto_region 3 with fail
 obtain ⟨wz, hwz⟩ : ∃ wz, w2.setCell ⟨Y.c, 2, none⟩ (.int .u64 (P.num : Nat)) = wz := ⟨_, rfl⟩
 rw [hwz] at HNUM
 have hz := HNUM.out
 have hbz : Below w.heap.size w wz := HB2.out.trans (hz.2.below HB2.out.size fun x hx e => by have := HOWN.out x e; omega)
 have hno : ({ PC.new n 0 with num := P.num } : PC) = PC.opened P.L P.num 0 := by
   unfold PC.opened
   rw [HN.out]
   rfl
 rw [hno] at hz
 have HZ := Lib.hid hz.1
 have HBZ := Lib.hid hbz
 simp only [hwz] at *
 clear hwz hz hbz hno c2 g2 g0
 go_wp2
 go_loopw [4] (fun iv wi => ∃ k : Nat, k ≤ n ∧ iv = .int .i64 k ∧ XAt wi Y (PC.opened P.L P.num k) ∧ Below w.heap.size w wi) (fun iv _ => n - (intOf iv).toNat)
 case atStart => exact ⟨0, Nat.zero_le _, rfl, HZ.out, HBZ.out⟩
 case round =>
   obtain ⟨k, hk, rfl, hY, hb⟩ := hrel
   have hX := HH.out.below hb
   have c0 : wr.cell? ⟨X.c, 0, none⟩ = some (.slice (some ⟨X.sb, 0, none⟩) n n) := by rw [← HN.out]; exact hX.c0
   have HY := Lib.hid hY
   have HB := Lib.hid hb
   by_cases hkl : k < n
   · have hkl' : (k : Int) < (n : Int) := by omega
     obtain ⟨x, hx⟩ : ∃ x, P.at_ k = x := ⟨_, rfl⟩
     have hkP : k < P.L.length := by rw [HN.out]; exact hkl
     have hLx := hX.slot hkP
     have hxi := HH.out.ok.is _ (List.mem_of_getElem? (at_get hkP))
     rw [hx] at hLx hxi
     have hagx := aggXs x
     have hop := opened_succ P.L P.num k
     have hgx : (P.L[k]?).getD Slt.no = x := hx
     rw [hgx] at hop
     have hset := xset_any hY k (by rw [opened_len]; exact hkP) x hxi (fun j hj hji hu => by
       rw [opened_len] at hj
       by_cases hxn : x = Slt.no
       · exact .inr hxn
       · refine .inl fun e => ?_
         have hoa := opened_at P.L P.num k (by omega) j
         rw [hoa] at hu e
         by_cases hjk : j < k
         · rw [if_pos hjk] at hu e
           have hu' : (P.at_ j).used = true := hu
           have e' : (P.at_ j).blk = x.blk := e
           rw [← hx] at e'
           have := HH.out.ok.uniq j k (by omega) hkP hu' (by rw [hx]; exact (is_used hxi).2 hxn) e'
           omega
         · rw [if_neg hjk] at hu
           cases hu)
     rw [← hop] at hset
     clear hX hY hb hx hxi hop hgx
     go_wp2_with (first
       | ((with_reducible refine wpList_loadA hagx hLx ?_ ?_); rfl; go_frame)
       | fail)
     refine hset.mono ?_
     rintro e w5 ⟨rfl, h5, hm5⟩
     have H5 := Lib.hid h5
     have HB5 := Lib.hid (HB.out.trans (hm5.below HB.out.size fun z hz e => by have := HOWN.out z e; omega))
     clear hset h5 hm5 hLx c0
     go_wp2
     go_roundw
     case rel => exact ⟨k + 1, by omega, by go_num, H5.out, HB5.out⟩
     case measure => simp [intOf]; omega
   · obtain rfl : k = n := by omega
     clear hX hY hb
     go_wp2
     go_ret
     exact ⟨Y, rfl, by rw [HN.out]; exact HY.out, HB.out, HOWN.out⟩
end
end Go.Proofs.YtldimgchpgoggaaGreat
namespace Go.Proofs.YtldimgchpgoggaaGreat
open Go.RowKit Go.Tn Go.Tn.Bt Go.Tn.Lp Go.Tn.Dk Go.Tn.Ino Go.Tn.Slo Go.Tn.Ck Go.Tn.Pc
section
variable {w0 w w' : World} {I : Lg → Dsk → Prop} {c p i : Nat} {P : PC} {G S : Nat → Prop} {X : XA}
theorem PSt.mod (h : PSt w0 I c p P G w) (hm : Mod S w w') (hS : ∀ b, G b → ¬ S b) (hlo : ∀ b, S b → w0.heap.size ≤ b) : PSt w0 I c p P G w' := by
 obtain ⟨⟨A, F, FD, l, d, h1, h2, h3, h4, h5⟩, h6, h7, h8⟩ := h
 exact ⟨⟨A, F, FD, l, d, h1, h2, h3.mod hm fun x hx => hS x (h5 x hx), h4, h5⟩, h6, fun b hb => Nat.lt_of_lt_of_le (h7 b hb) hm.size, h8.trans (hm.below h8.size fun b hb hs => absurd (hlo b hs) (Nat.not_le.2 hb))⟩
theorem PSt.reopenQ (h : PQ w0 i c p P G w) (hi : i ≤ 899) (h1 : 1 ≤ P.L.length) : Calls Tryz.prog 10 #[.pointer (some ⟨p, 0, none⟩), .int .i64 20, .int .i64 P.L.length] w
   fun e w' => ∃ c' G', e = .returned (.tuple #[.pointer (some ⟨c', 0, none⟩), .int .i64 0]) ∧ PQ w0 (i + 1) c' p (PC.opened P.L P.num P.L.length) G' w' ∧ Below w.heap.size w w' ∧ ∀ b, G' b → G b ∨ w.heap.size ≤ b := by
 obtain ⟨⟨A, F, FD, l, d, rfl, rfl, h3, h4, h5⟩, h6, h7, h8⟩ := h
 obtain ⟨hf, l2, ho, hl2, hho⟩ := clive_open h4.live (by omega) (by decide)
 have hI2 : PInv (i + 1) l2 d P := ⟨hl2, by rw [hho]; exact h4.shows, h4.ok, h4.hand, h4.slots, h4.num⟩
 have hsz : P.L.length + 23 ≤ d.L.length := by
   have k1 := h4.homes
   have k2 := h4.live.rn
   unfold Lg.homes at k1
   omega
 refine (popen_quiet h3.disk (fun b hb => h6 b (h5 b (.inr (.inr hb)))) h8 hI2 ho hf (by omega) h1 hsz).mono ?_
 rintro e w' ⟨c', G', he, hq, hb, hg⟩
 exact ⟨c', G', he, hq, hb, fun b hb' => (hg b hb').imp (fun h => h5 b (.inr (.inr h))) id⟩
structure Pair (w0 : World) (i c p : Nat) (P : PC) (G : Nat → Prop) (X : XA) (wi : World) : Prop where
 q : PQ w0 i c p P G wi
 x : XAt wi X P
 ap : ∀ b, X.own b → ¬ G b
 lo : ∀ b, X.own b → w0.heap.size ≤ b
theorem Pair.below (h : Pair w0 i c p P G X w) (hb : Below w.heap.size w w') : Pair w0 i c p P G X w' := ⟨h.q.below hb, h.x.below hb, h.ap, h.lo⟩
theorem Pair.mono {j : Nat} (h : Pair w0 i c p P G X w) (hij : i ≤ j) : Pair w0 j c p P G X w := ⟨h.q.imp fun _ _ h => h.mono hij, h.x, h.ap, h.lo⟩
theorem Pair.step {w1 w2 : World} {P' : PC} {j : Nat} (h : Pair w0 i c p P G X w) (h1 : PQT w0 j c p P' G w w1) (h2 : XAt w1 X P → XAt w2 X P' ∧ Mod X.own w1 w2) : ∃ G', Pair w0 j c p P' G' X w2 := by
 obtain ⟨G', k1, k2, k3⟩ := h1
 have hx1 := h.x.mod k2 h.ap
 have hap : ∀ b, X.own b → ¬ G' b := fun b hb hg => (k3 b hg).elim (h.ap b hb) fun e => by have := h.x.lt b hb; omega
 obtain ⟨m1, m2⟩ := h2 hx1
 exact ⟨G', k1.mod m2 (fun b hb hx => hap b hx hb) h.lo, m1, hap, h.lo⟩
theorem Pair.half {w1 : World} {P' : PC} {j : Nat} (h : Pair w0 i c p P G X w) (h1 : PQT w0 j c p P' G w w1) : ∃ G', PQ w0 j c p P' G' w1 ∧ XAt w1 X P ∧ (∀ b, X.own b → ¬ G' b) ∧ w.heap.size ≤ w1.heap.size ∧ Mod G w w1 := by
 obtain ⟨G', k1, k2, k3⟩ := h1
 exact ⟨G', k1, h.x.mod k2 h.ap, fun b hb hg => (k3 b hg).elim (h.ap b hb) fun e => by have := h.x.lt b hb; omega, k2.size, k2⟩
end
end Go.Proofs.YtldimgchpgoggaaGreat
namespace Go.Proofs.YtldimgchpgoggaaGreat
open Go.RowKit Go.Tn Go.Tn.Bt Go.Tn.Lp Go.Tn.Dk Go.Tn.Ino Go.Tn.Slo Go.Tn.Ck Go.Tn.Pc
theorem lies_doB {w : World} {b o : Nat} {x : DoX × Sv} (h : Lies w b o (doC x)) : Lies w b (o + 3) (blC x.1.x.blk) := fun j hj => by
 have hj3 : j < 3 := hj
 match j, hj3 with
 | 0, _ => exact h 3 (by show 3 < 11; decide)
 | 1, _ => exact h 4 (by show 4 < 11; decide)
 | 2, _ => exact h 5 (by show 5 < 11; decide)
theorem does_len {P : PC} (h : P.Ok) (hh : P.R.hand < P.R.L.length) (y : DoX) : (P.does y).1.L.length = P.L.length := by
 unfold PC.does
 split
 · exact (put_ok h hh y.x).2.1
 · split
   · unfold PC.drop
     split
     · rfl
     · exact set_len _ _ _
   · split
     · exact turns_len _ _ _
     · split
       · split
         · exact turns_len _ _ _
         · rfl
       · split
         · split <;> rfl
         · rfl
set_option maxRecDepth 40000 in
set_option maxHeartbeats 8000000 in
theorem plays_walk (w : World) (slots : Int) (v : Value) (ds : List DoX) (hds : DosX w v ds) : Calls Tryz.prog 4 #[.int .i64 slots, v] w fun e w' => e = .returned (.bool true) ∧ Below w.heap.size w w' := by
 have hwi := within_any w slots 1 12
 obtain ⟨n, hn, hn1, hn2⟩ : ∃ k : Nat, within slots 1 12 = (k : Int) ∧ 1 ≤ k ∧ k ≤ 12 := by
   refine ⟨(within slots 1 12).toNat, ?_, ?_, ?_⟩ <;> unfold within <;> split <;> (try split) <;> omega
 rw [hn] at hwi
 have hfw := few_any w v ds hds 40 (by decide)
 rw [show ((40 : Nat) : Int) = 40 from rfl] at hfw
 obtain ⟨a0, n0, c0, rfl⟩ : ∃ a n c, v = .slice a n c := by
   obtain ⟨xs, -, ⟨ao, cap, rfl, -⟩, -⟩ := hds
   exact ⟨_, _, _, rfl⟩
 have hn2' : (n : Int) ≤ 12 := by omega
 have hn1' : (1 : Int) ≤ n := by omega
 have HN := Lib.hid (⟨hn1, hn2⟩ : 1 ≤ n ∧ n ≤ 12)
 clear hds hn hn1 hn2
 go_enter Tryz.func4, Tryz.ntmps4
 go_wp2_with (first
   | (go_at_call 7; refine hwi.mono ?_; rintro e wt ⟨rfl, hw⟩; obtain rfl := hw.symm; clear hw)
   | fail)
 refine hfw.mono ?_
 rintro e wl ⟨v1, es, rfl, hD1, hel, hdt, hb1⟩
 obtain ⟨xs, hxs, hxL, hxD⟩ := hD1
 have hxl : xs.length = es.length := by rw [← hxs]; simp
 obtain ⟨ao, ca, rfl, x1, x2, x3⟩ := hxL
 rw [hxl] at x1 x3 ⊢
 unfold maxLen at x2
 have hb63 : (es.length : Int) ≤ 40 := by omega
 have hnw := newd_any wl (n + 24) (by omega) (by have := HN.out.2; omega)
 rw [show ((n + 24 : Nat) : Int) = (n : Int) + 24 by omega] at hnw
 have HB1 := Lib.hid hb1
 have HXD := Lib.hid hxD
 have HXL := Lib.hid hxl
 have HX3 := Lib.hid x3
 have HEL := Lib.hid hel
 clear hfw hwi hxs hxD hxl hb1 hdt x3 hel
 go_wp2_with fail
 refine hnw.mono ?_
 rintro e w2 ⟨p, FD, rfl, hD, hb2, hF⟩
 have hop := popen_new (w0 := wl) (n := n) hD (fun b hb => hF b hb) hb2 HN.out.1 HN.out.2 (by omega) (by have := HN.out.2; omega)
 clear hnw hD hb2 hF
 go_wp2_with fail
 refine hop.mono ?_
 rintro e w3 ⟨c, G, rfl, hQ3, -, -⟩
 have hxn := xnew_any w3 n HN.out.1 (by have := HN.out.2; omega)
 have HQ3 := Lib.hid hQ3
 clear hop hQ3
 go_wp2_with fail
 refine hxn.mono ?_
 rintro e w4 ⟨X, rfl, hX4, hb4, hown⟩
 have hpair : Pair wl 0 c p (PC.new n 0) G X w4 := ⟨HQ3.out.below hb4, hX4, fun b hb hg => by have h1 := HQ3.out.hi b hg; have h2 := hown b hb; omega, fun b hb => by have h1 := HQ3.out.w.size; have h2 := hown b hb; omega⟩
 have HP4 : Hid (Pair wl 0 c p (PC.new n 0) G X w4 ∧ (PC.new n 0).L.length = n) := Lib.hid ⟨hpair, by simp [PC.new]⟩
 clear hxn hX4 hb4 hown hpair HQ3
 go_wp2
 go_loopw [7, 9, 10] (fun cv xv iv wi => ∃ (i : Nat) (P : PC) (G : Nat → Prop) (c : Nat) (X : XA), i ≤ es.length ∧ iv = .int .i64 i ∧ cv = .pointer (some ⟨c, 0, none⟩) ∧ xv = .pointer (some ⟨X.c, 0, none⟩) ∧ Pair wl (2 * i) c p P G X wi ∧ P.L.length = n) (fun _ _ iv _ => es.length - (intOf iv).toNat)
 case atStart => exact ⟨0, _, G, c, X, Nat.zero_le _, rfl, rfl, rfl, HP4.out.1, HP4.out.2⟩
 case round =>
   clear HP4 G
   obtain ⟨i, P, G, c, X, hi, rfl, rfl, rfl, hP, hpl⟩ := hrel
   have HP := Lib.hid hP
   have HPL := Lib.hid hpl
   clear hP hpl
   by_cases hil : i < es.length
   · have hil' : (i : Int) < (es.length : Int) := by omega
     obtain ⟨x, hx⟩ : ∃ x, xs[i]? = some x := ⟨_, List.getElem?_eq_getElem (by rw [HXL.out]; exact hil)⟩
     obtain ⟨b4, o4, rfl, hb4, hc4⟩ := HX3.out (by omega)
     have hlx : Lies wr b4 (o4 + i * 11) (doC x) := (hc4 i x hx).below' HP.out.q.w hb4
     have hfx := (HXD.out x (List.mem_of_getElem? hx)).below HP.out.q.w
     obtain ⟨kd, hkd⟩ : ∃ k, x.1.kind = k := ⟨_, rfl⟩
     have q0 : wr.cell? ⟨b4, o4 + i * 11, none⟩ = some (.int .i64 kd) := by
       rw [← hkd]
       exact hlx 0 (by show 0 < 11; decide)
     have HKD := Lib.hid hkd
     have HFX := Lib.hid hfx
     have HC4 : Hid (Lies wl b4 (o4 + i * 11) (doC x)) := Lib.hid (hc4 i x hx)
     have HB4 := Lib.hid hb4
     have HLX := Lib.hid hlx
     clear hx hc4 hkd hfx hb4 hlx
     go_upto_block 2 with fail
     go_cut [7, 9] (fun cv xv wx => ∃ (P2 : PC) (G2 : Nat → Prop) (c2 : Nat) (X2 : XA), cv = .pointer (some ⟨c2, 0, none⟩) ∧ xv = .pointer (some ⟨X2.c, 0, none⟩) ∧ Pair wl (2 * (i + 1)) c2 p P2 G2 X2 wx ∧ P2.L.length = n)
     case first =>
       by_cases hk1 : kd = 1
       · subst hk1
         obtain ⟨P3, hP3⟩ : ∃ P3, (P.get x.1.x.blk).1 = P3 := ⟨_, rfl⟩
         obtain ⟨gx, hgx⟩ : ∃ gx, (P.get x.1.x.blk).2.1 = gx := ⟨_, rfl⟩
         obtain ⟨ok, hok⟩ : ∃ ok, (P.get x.1.x.blk).2.2 = ok := ⟨_, rfl⟩
         have hge := HP.out.q.getQ x.1.x.blk
         have hl3 : P3.L.length = n := by rw [← hP3, get_L]; exact HPL.out
         rw [hP3, hgx, hok] at hge
         have hLb : Lies wr b4 (o4 + i * 11 + 3) (blC x.1.x.blk) := lies_doB HLX.out
         have hagb := aggBl x.1.x.blk
         have HG3 := Lib.hid hP3
         have HGX := Lib.hid hgx
         have HOK := Lib.hid hok
         have HL3 := Lib.hid hl3
         clear hP3 hgx hok hl3
         go_wp2_with (first
           | ((with_reducible refine wpList_loadA hagb hLb ?_ ?_); rfl; go_frame)
           | fail)
         refine hge.mono ?_
         rintro e w5 ⟨rfl, hT⟩
         obtain ⟨G5, hq5, hx5, hap5, hs5, hm5⟩ := HP.out.half hT
         have HQ5 := Lib.hid hq5
         have HX5 := Lib.hid hx5
         have HAP5 := Lib.hid hap5
         have HS5 := Lib.hid hs5
         have haz := aggZSl gx
         have hon := oneSl gx
         clear hge hLb hT hq5 hx5 hap5 hs5 hm5 q0
         go_upto_region 13 with (first
           | ((refine wpList_allocStore haz hon ?_ ?_ ?_ ?_); go_simp; decide; go_simp; go_frame)
           | fail)
         obtain ⟨w6, hw6⟩ : ∃ w6, w5.alloc (.cells (slC gx) 42) = w6 := ⟨_, rfl⟩
         have hb6 : Below w5.heap.size w5 w6 := by rw [← hw6]; exact (Below.refl _ _).alloc (Nat.le_refl _) _
         have ha6 : w6.heap[w5.heap.size]? = some (.cells (slC gx) 42 (0, 0)) := by rw [← hw6]; exact heap_alloc_at
         simp only [hw6] at *
         clear hw6
         have hq6 := HQ5.out.below hb6
         have hLb6 : Lies w6 b4 (o4 + i * 11 + 3) (blC x.1.x.blk) := lies_doB (HC4.out.below' hq6.w HB4.out)
         have hxg := xget_any (HX5.out.below hb6) x.1.x.blk
         rw [HG3.out, HGX.out, HOK.out] at hxg
         have HQ6 := Lib.hid hq6
         have HA6 := Lib.hid ha6
         clear hb6 ha6 hq6 haz hon
         go_wp2_with (first
           | ((with_reducible refine wpList_loadA hagb hLb6 ?_ ?_); rfl; go_frame)
           | fail)
         refine hxg.mono ?_
         rintro e w7 ⟨rfl, hx7, hm7⟩
         have ha7 := hm7.heap HA6.out (fun e => by have h1 := HP.out.x.lt _ e; have h2 := HS5.out; omega)
         have hpair : Pair wl (2 * i) c p P3 G5 X w7 := ⟨HQ6.out.mod hm7 (fun b hb hx => HAP5.out b hx hb) HP.out.lo, hx7, HAP5.out, HP.out.lo⟩
         have HP7 := Lib.hid hpair
         have HA7 := Lib.hid ha7
         have haz := aggZXs gx
         have hon := oneXs gx
         clear hxg hLb6 hx7 hm7 ha7 hpair hagb
         go_upto_region 14 with (first
           | ((refine wpList_allocStore haz hon ?_ ?_ ?_ ?_); go_simp; decide; go_simp; go_frame)
           | fail)
         obtain ⟨w8, hw8⟩ : ∃ w8, w7.alloc (.cells (slC gx) 38) = w8 := ⟨_, rfl⟩
         have hb8 : Below w7.heap.size w7 w8 := by rw [← hw8]; exact (Below.refl _ _).alloc (Nat.le_refl _) _
         have hx8 : w8.heap[w7.heap.size]? = some (.cells (slC gx) 38 (0, 0)) := by rw [← hw8]; exact heap_alloc_at
         simp only [hw8] at *
         clear hw8
         have ha8 := (hb8.block _ (lt_of_block HA7.out)).trans HA7.out
         have HLA := Lib.hid (show Lies w8 w5.heap.size 0 (slC gx) from lies_of ha8)
         have HLX8 := Lib.hid (show Lies w8 w7.heap.size 0 (slC gx) from lies_of hx8)
         have HTA := Lib.hid (lt_of_block ha8)
         have HTX := Lib.hid (lt_of_block hx8)
         have HP8 := Lib.hid (HP7.out.below hb8)
         have hgtS : Tryz.prog.eqGuardType Tryz.prog.depth 42 = false := by kernel_rfl
         have heqS := fun w => eqSlt w gx gx
         rw [decide_eq_true (rfl : gx = gx)] at heqS
         have hS : Below w8.heap.size w8 w8.drew := (Below.refl _ _).drew
         clear hb8 hx8 ha8 haz hon
         refine wp_region_g (fun w' => Below w8.heap.size w8 w') [(0, 0), (1, 0), (2, 2), (3, 1), (4, 1), (5, 1), (6, 1), (7, 1), (8, 1)] (by kernel_rfl) (by kernel_rfl) (by intro d v c a w h; cases d <;> exact h) ?_
         refine g_read rfl rfl hS (fun w' h => exec_loadA (aggSl gx) rfl (HLA.out.below' h HTA.out)) ?_
         refine g_read rfl rfl hS (fun w' h => exec_loadA (aggXs gx) rfl (HLX8.out.below' h HTX.out)) ?_
         refine g_show' rfl rfl (fun K hK => ?_)
         go_simp
         refine (mine_any _ gx).mono ?_
         rintro e w9 ⟨rfl, hb9⟩
         have hS9 := hS.trans (hb9.mono hS.size)
         refine hK _ _ hS9 ?_
         clear hK K hS hb9
         refine g_take rfl rfl (fun K hK => ⟨_, fun w => exec_neqS (xs := slC gx) (ys := slC gx) hgtS heqS rfl rfl w, ?_⟩)
         refine hK _ ?_
         clear hK K heqS
         have hokk : (ok != ok) = false := by simp
         iterate 1 (refine g_take rfl rfl (fun K hK => ?_); go_simp; refine hK _ ?_; clear hK K)
         iterate 4 (refine g_take rfl rfl (fun K hK => ?_); go_simp; refine hK _ ?_; clear hK K)
         refine g_nil ?_
         have HPF := Lib.hid ((HP8.out.below hS9).mono (j := 2 * (i + 1)) (by omega))
         clear hS9
         go_wp2
         go_meet
         case rel => exact ⟨P3, G5, c, X, rfl, rfl, HPF.out, HL3.out⟩
       · have hne1 : ((kd == 1) : Bool) = false := by rw [beq_eq_false_iff_ne]; exact hk1
         by_cases hk06 : 0 ≤ kd ∧ kd < 7
         · obtain ⟨h0, h7⟩ := hk06
           go_upto_region 17 with fail
           have hpd := HP.out.below (Below.refl wr.heap.size wr).drew
           have hfd := HFX.out.below (Below.refl wr.heap.size wr).drew
           have hS : Lies wr.drew b4 (o4 + i * 11) (doC x) := HLX.out
           have HPD := Lib.hid hpd
           have HFD := Lib.hid hfd
           have hld := does_len HP.out.q.ok.1 HP.out.q.ok.2 x.1
           rw [HPL.out] at hld
           have HLD := Lib.hid hld
           clear hpd hfd q0 hld
           refine wp_region_x (fun w' => Lies w' b4 (o4 + i * 11) (doC x)) [(0, 1), (1, 1), (2, 1), (3, 1), (4, 0), (6, 1), (7, 1), (8, 1), (9, 1), (10, 0), (5, 2), (11, 2), (12, 1)] (by kernel_rfl) (by kernel_rfl) (by intro d v c a w h; cases d <;> exact h) ?_
           iterate 4 (refine x_take rfl (fun K hK => ?_); go_simp; refine hK _ ?_; clear hK K)
           refine x_read rfl hS (fun w' h => exec_loadA (aggDo x) rfl h) ?_
           iterate 4 (refine x_take rfl (fun K hK => ?_); go_simp; refine hK _ ?_; clear hK K)
           refine x_read rfl hS (fun w' h => exec_loadA (aggDo x) rfl h) ?_
           refine x_show' rfl (fun K hK => ?_)
           go_simp
           refine (does_any HPD.out.q (by omega) x HFD.out).mono ?_
           rintro e w5 ⟨rfl, hT⟩
           obtain ⟨G5, hq5, hx5, hap5, hs5, hm5⟩ := HPD.out.half hT
           have hS5 : Lies w5 b4 (o4 + i * 11) (doC x) := HC4.out.below' hq5.w HB4.out
           refine hK _ _ hS5 ?_
           clear hK K hS
           refine x_show' rfl (fun K hK => ?_)
           go_simp
           refine (xmust_any hx5 x).mono ?_
           rintro e w6 ⟨rfl, hx6, hm6⟩
           have hpair : Pair wl (2 * (i + 1)) c p (P.does x.1).1 G5 X w6 := ⟨hq5.mod hm6 (fun b hb hx => hap5 b hx hb) HPD.out.lo, hx6, hap5, HPD.out.lo⟩
           have hS6 : Lies w6 b4 (o4 + i * 11) (doC x) := HC4.out.below' hpair.q.w HB4.out
           refine hK _ _ hS6 ?_
           clear hK K hS5
           have HPF := Lib.hid hpair
           obtain ⟨cd, hcd⟩ : ∃ cd, (P.does x.1).2 = cd := ⟨_, rfl⟩
           rw [hcd]
           have hcc : ((cd : Int) != (cd : Int)) = false := by simp
           clear hcd hT hq5 hx5 hap5 hs5 hm5 hx6 hm6 hpair
           iterate 1 (refine x_take rfl (fun K hK => ?_); go_simp; refine hK _ ?_; clear hK K)
           refine x_nil ?_
           clear hS6
           go_wp2
           go_meet
           case rel => exact ⟨_, G5, c, X, rfl, rfl, HPF.out, HLD.out⟩
         · by_cases hk8 : kd > 7
           · have hrq := HP.out.q.reopenQ (by omega) (by rw [HPL.out]; exact HN.out.1)
             have hol : (PC.opened P.L P.num P.L.length).L.length = n := by rw [opened_len]; exact HPL.out
             rw [HPL.out] at hrq
             have HOL := Lib.hid hol
             clear hol hk06
             go_wp2_with fail
             refine hrq.mono ?_
             rintro e w5 ⟨c5, G5, rfl, hq5, hb5, hg5⟩
             have hx5 := HP.out.x.below hb5
             have hxo := xopen_any hx5
             rw [HPL.out] at hxo
             have HQ5 := Lib.hid hq5
             have HB5 := Lib.hid hb5
             clear hrq hq5 hb5 hg5 hx5
             go_wp2_with fail
             refine hxo.mono ?_
             rintro e w6 ⟨Y, rfl, hY6, hb6, hown⟩
             have hpair : Pair wl (2 * i + 1) c5 p (PC.opened P.L P.num n) G5 Y w6 := ⟨HQ5.out.below hb6, hY6, fun b hb hg => by have h1 := HQ5.out.hi b hg; have h2 := hown b hb; omega, fun b hb => by have h1 := HQ5.out.w.size; have h2 := hown b hb; omega⟩
             have HPF := Lib.hid (hpair.mono (j := 2 * (i + 1)) (by omega))
             have hol := HOL.out
             rw [HPL.out] at hol
             have HOL2 := Lib.hid hol
             clear hxo hY6 hb6 hown hpair hol
             go_wp2
             go_meet
             case rel => exact ⟨_, G5, c5, Y, rfl, rfl, HPF.out, HOL2.out⟩
           · have HPF := Lib.hid (HP.out.mono (j := 2 * (i + 1)) (by omega))
             by_cases h0 : 0 ≤ kd
             · have h7 : ¬ kd < 7 := fun e => hk06 ⟨h0, e⟩
               clear hk06
               go_wp2
               go_meet
               case rel => exact ⟨P, G, c, X, rfl, rfl, HPF.out, HPL.out⟩
             · clear hk06
               go_wp2
               go_meet
               case rel => exact ⟨P, G, c, X, rfl, rfl, HPF.out, HPL.out⟩
     case rest =>
       obtain ⟨P2, G2, c2, X2, rfl, rfl, hpr, hpl2⟩ := hcut
       have hlx2 := HC4.out.below' hpr.q.w HB4.out
       have q3 : wc.cell? ⟨b4, o4 + i * 11 + 3, none⟩ = some (.int .i64 x.1.x.blk.1) := hlx2 3 (by show 3 < 11; decide)
       have q4 : wc.cell? ⟨b4, o4 + i * 11 + 4, none⟩ = some (.int .i64 x.1.x.blk.2.1) := hlx2 4 (by show 4 < 11; decide)
       have HPR := Lib.hid hpr
       have HPL2 := Lib.hid hpl2
       clear hpr hpl2 hlx2 q0
       go_upto_region 25 with fail
       obtain ⟨w5, hw5⟩ : ∃ w5, wc.alloc (.cells #[.int .i64 x.1.x.blk.1, .int .i64 x.1.x.blk.2.1] 33) = w5 := ⟨_, rfl⟩
       have hb5 : Below wc.heap.size wc w5 := by rw [← hw5]; exact (Below.refl _ _).alloc (Nat.le_refl _) _
       have hf5 : w5.heap[wc.heap.size]? = some (.cells #[.int .i64 x.1.x.blk.1, .int .i64 x.1.x.blk.2.1] 33 (0, 0)) := by rw [← hw5]; exact heap_alloc_at
       simp only [hw5] at *
       clear hw5
       have HP5 := Lib.hid (HPR.out.below hb5)
       have hLf : Lies w5 wc.heap.size 0 #[.int .i64 x.1.x.blk.1, .int .i64 x.1.x.blk.2.1] := lies_of hf5
       have HLF := Lib.hid hLf
       have HLTF := Lib.hid (lt_of_block hf5)
       clear q3 q4 hb5 hf5 hLf
       have hS : Below w5.heap.size w5 w5.drew := (Below.refl _ _).drew
       refine wp_region_g (fun w' => Below w5.heap.size w5 w') [(0, 1), (1, 1), (2, 2), (3, 1), (4, 1), (5, 1), (6, 0), (9, 1), (10, 0), (7, 2), (8, 2), (11, 2), (12, 2), (13, 1), (14, 1)] (by kernel_rfl) (by kernel_rfl) (by intro d v c a w h; cases d <;> exact h) ?_
       iterate 2 (refine g_take rfl rfl (fun K hK => ?_); go_simp; refine hK _ ?_; clear hK K)
       refine g_show' rfl rfl (fun K hK => ?_)
       go_simp
       refine (lsame_any (HP5.out.q.below hS) (HP5.out.x.below hS)).mono ?_
       rintro e w6 ⟨bb, rfl, hbb, hb6⟩
       obtain rfl : bb = true := hbb.2 (PC.like.refl _)
       have hS6 := hS.trans (hb6.mono hS.size)
       refine hK _ _ hS6 ?_
       clear hK K hS hb6 hbb
       iterate 2 (refine g_take rfl rfl (fun K hK => ?_); go_simp; refine hK _ ?_; clear hK K)
       iterate 1 (refine g_take rfl rfl (fun K hK => ?_); go_simp; refine hK _ ?_; clear hK K)
       refine g_read rfl rfl hS6 (fun w' h => exec_loadA (aggFi x.1.x.blk.1 x.1.x.blk.2.1) rfl (HLF.out.below' h HLTF.out)) ?_
       iterate 1 (refine g_take rfl rfl (fun K hK => ?_); go_simp; refine hK _ ?_; clear hK K)
       refine g_read rfl rfl hS6 (fun w' h => exec_loadA (aggFi x.1.x.blk.1 x.1.x.blk.2.1) rfl (HLF.out.below' h HLTF.out)) ?_
       refine g_show' rfl rfl (fun K hK => ?_)
       go_simp
       refine ((HP5.out.q.below hS6).of (x.1.x.blk.1, x.1.x.blk.2.1)).mono ?_
       rintro e w7 ⟨v7, is7, rfl, hby7, hl7, hO7, hb7⟩
       have hS7 := hS6.trans (hb7.mono hS6.size)
       refine hK _ _ hS7 ?_
       clear hK K
       refine g_show' rfl rfl (fun K hK => ?_)
       go_simp
       refine (xplain_any (hO7.sl elSl.len) (by rw [List.length_map]; exact hl7)).mono ?_
       rintro e w8 ⟨v8, rfl, hO8, hb8⟩
       have hS8 := hS7.trans (hb8.mono hS7.size)
       refine hK _ _ hS8 ?_
       clear hK K
       refine g_show' rfl rfl (fun K hK => ?_)
       go_simp
       refine (xall_any (HP5.out.x.below hS8) false true (x.1.x.blk.1, x.1.x.blk.2.1)).mono ?_
       rintro e w9 ⟨v9, zs, rfl, hsb9, hl9, hO9, hb9⟩
       have hS9 := hS8.trans (hb9.mono hS8.size)
       refine hK _ _ hS9 ?_
       clear hK K
       refine g_show' rfl rfl (fun K hK => ?_)
       go_simp
       refine (xsame_any ((hO8.sl elXs.len).below hb9) (hO9.sl elXs.len) (by rw [List.length_map]; exact hl7) hl9).mono ?_
       rintro e w10 ⟨rfl, hb10⟩
       have hS10 := hS9.trans (hb10.mono hS9.size)
       refine hK _ _ hS10 ?_
       clear hK K
       have hq : is7.map P2.at_ = zs := hby7.slots.uniq (hsb9.congr fun z => has_ft _ z)
       rw [decide_eq_true hq]
       clear hS6 hS7 hS8 hS9 hO7 hO8 hO9 hb7 hb8 hb9 hb10 hq hby7 hsb9
       iterate 2 (refine g_take rfl rfl (fun K hK => ?_); go_simp; refine hK _ ?_; clear hK K)
       refine g_nil ?_
       have HPF := Lib.hid (HP5.out.below hS10)
       clear hS10
       go_wp2
       go_roundw
       case rel => exact ⟨i + 1, P2, G2, c2, X2, by omega, by go_num, rfl, rfl, HPF.out, HPL2.out⟩
       case measure => simp [intOf]; omega
   · obtain rfl : i = es.length := by omega
     have hwl := HP.out.q.w
     go_wp2_with (first
       | (go_at_call 16; refine (lives_any _).mono ?_; rintro e w8 ⟨rfl, hb8⟩; have HB8 := Lib.hid (HB1.out.trans ((hwl.trans (hb8.mono hwl.size)).mono HB1.out.size)); clear hb8)
       | fail)
     go_ret
     exact ⟨rfl, HB8.out⟩
end Go.Proofs.YtldimgchpgoggaaGreat
namespace Go.Proofs.YtldimgchpgoggaaGreat
open Go.ChangeShapes Go.WideShapes Go.ChangeAt Go.RowKit Go.Tn Go.Joins
set_option maxRecDepth 100000 in
theorem plays_lifted (os : Os) (started : os.Started) (H : Type) (enc : TypeId × Value → H) :
   ReturnsInHanded {} Tryz.checked os 4 .any (Rows.pcachePlaysSpec.pre6 enc Tryz.prog Tryz.f4 Rows.pcachePlaysRow.domain false) (Rows.pcachePlaysSpec.post enc Tryz.prog Tryz.f4 false true false false) := by
 refine returnsInHanded_of_change (C := Tryz.checked) Tryz.own started (by kernel_rfl) Tryz.func4
   (ChangeSpec.witness6 (enc := enc) (C := Tryz.checked) false ⟨#[], #[.int .i64 0, .slice none 0 0], []⟩ 8 (by kernel_rfl) (by kernel_rfl) (by kernel_rfl) (by kernel_rfl)) ?_
 intro W base args ds gs before hval0 hW hcnd _
 have hval : ∀ (j : Nat) t v, Tryz.f4.params[j]? = some t → args[j]? = some v → Value.okWide Tryz.prog W .any base t v := hval0
 have hW' := hW
 obtain ⟨p, q, hA0, hV, rfl, hfz, hnd⟩ := hW
 have hA : DataW.TrodAll enc Tryz.prog W 0 (fun _ => true) true Tryz.f4.params.toList args.toList ds p := hA0
 rw [Tryz.params4] at hA hval
 obtain ⟨v0, vs0, d0, ds0, p0, q0, hargs, rfl, rfl, h0, r0⟩ := trodAll_cons hA
 obtain ⟨v1, vs1, d1, ds1, p1, q1, rfl, rfl, rfl, h1, r1⟩ := trodAll_cons r0
 obtain ⟨rfl, rfl, rfl⟩ := trodAll_nil r1
 obtain rfl : args = #[v0, v1] := by cases args; simp_all
 obtain ⟨rfl, rfl⟩ := trodVars_none hV
 obtain ⟨a0, rfl, rfl, rfl, w0⟩ := open_int Tryz.underlying3 (hval 0 3 v0 rfl rfl) h0
 obtain ⟨a1, len1, cap1, rfl⟩ := okWide_slice Tryz.underlying22 (hval 1 22 v1 rfl rfl)
 have k1 := h1
 have lt1 : ∀ x ∈ p1, x.block < W.heap.size := by obtain ⟨m, hm⟩ := k1; exact DataW.trod_lt m _ _ _ hm
 obtain ⟨es, hes⟩ := dos_of h1
 clear hA0 hval0
 refine (plays_walk W a0 _ es hes).mono fun e W' ⟨he, bel⟩ => ?_
 subst he
 exact ⟨_, rfl, _, _, _, [], _, [], hW', trodAll_mk1 (shut_bool Tryz.underlying4 _), (trodAll_cons_mk (shut_int Tryz.underlying3 w0) (trodAll_cons_mk (Below.trod Tryz.laidOut (by kernel_rfl) (of_decide_eq_true (by kernel_rfl)) k1 bel lt1) trodAll_mk0)), rfl, bel.frame _, fun h => by cases h⟩
theorem plays_holds : Rows.PcachePlaysSaid :=
 OpenClaim.holds_of_wide 4 Tryz.f4 rfl rfl rfl rfl rfl rfl rfl ⟨rfl, rfl, rfl, rfl, rfl⟩ rfl rfl rfl rfl rfl (by kernel_rfl) Tryz.func4 (by kernel_rfl)
   (of_decide_eq_true (by kernel_rfl)) (by unfold Func.isWrapper; first | (rw [if_pos (by decide +kernel)]; kernel_rfl) | (rw [if_neg (by decide +kernel)]; exact ⟨rfl, rfl⟩))
   (fun os started H enc _ => plays_lifted os started H enc)
end Go.Proofs.YtldimgchpgoggaaGreat
