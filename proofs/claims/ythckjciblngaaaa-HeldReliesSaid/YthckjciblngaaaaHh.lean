/- Held: Give walked. -/
import Derived.Test.YthckjciblngaaaaHg
namespace Go.Proofs.Ythckjciblngaaaa
open Go.RowKit Go.Tn Go.Maps Go.Sort Go.Shelf

section
variable {w : World} {b m lb : Nat} {ph se bo : Int} {L : Ents Fi} {clk : Nat} {G : Gs} {wv : Value} {W : List Fi} {t u : Nat}
/-- Its wants changed. -/
theorem HAt.rewant {w' : World} {wv' : Value} {W' : List Fi} (h : HAt w b m lb ph se bo L clk G wv W t u) (hb : w'.heap[b]? = some (.cells #[.pointer (some ⟨lb, 0, none⟩), .int .i64 ph, .int .u64 se, .int .u64 bo, .map (some m), wv'] 54 (0, 0))) (hm : Mod (fun x => x = b ∨ wv.ownBlock = some x) w w') (hw : LOut enF 2 39 0 w' wv' W') (ho : ∀ r, wv'.ownBlock = some r → wv.ownBlock = some r ∨ w.heap.size ≤ r) : HAt w' b m lb ph se bo L clk G wv' W' t u := by
  refine ⟨hb, h.lease.mod hm (fun e => ?_), hm.heap h.map (fun e => ?_), h.wf, h.get, hw, h.bm, h.bl, h.ml, fun r hr => ?_⟩
  · rcases e with e | e
    · exact h.bl e.symm
    · exact (h.own lb e).2.2 rfl
  · rcases e with e | e
    · exact h.bm e.symm
    · exact (h.own m e).2.1 rfl
  · rcases ho r hr with h1 | h1
    · exact h.own r h1
    · have := h.b_lt
      have := h.m_lt
      have := h.l_lt
      exact ⟨by omega, by omega, by omega⟩
/-- Give's answer, and what it leaves of the files. -/
def giveG (G : Gs) (f : Fi) : Gs := if (G f).isSome then putG G f none else G
set_option maxRecDepth 20000 in
set_option maxHeartbeats 1000000 in
theorem give_any (h : HAt w b m lb ph se bo L clk G wv W t u) (i g : Int) : Calls Try.prog 25 #[.pointer (some ⟨b, 0, none⟩), .agg #[.int .i64 i, .int .i64 g]] w
    fun e w' => e = .returned (.int .i64 (if (G (i, g)).isSome then 0 else 11)) ∧ (∃ wv', HSome w' b m lb ph se bo (giveG G (i, g)) wv' (W.filter (ne_ (i, g))) t u L.length ∧ ∀ r, wv'.ownBlock = some r → wv.ownBlock = some r) ∧ Mod (fun x => x = b ∨ x = m ∨ wv.ownBlock = some x) w w' := by
  unfold giveG
  have hb : Below w.heap.size w (w.alloc (.cells #[.int .i64 i, .int .i64 g] 39)) := (Below.refl _ _).alloc (Nat.le_refl _) _
  have h1 := h.below hb
  have hm := ok_any _ b lb h1.c0
  have c5 := h1.c5
  obtain ⟨hg, hs⟩ := h.look (i, g)
  obtain ⟨⟨md, vr, cl⟩, ho⟩ : ∃ o, (G (i, g)).getD ⟨0, 0, false⟩ = o := ⟨_, rfl⟩
  rw [ho] at hg
  obtain ⟨s, hse⟩ : ∃ s, (G (i, g)).isSome = s := ⟨_, rfl⟩
  rw [hse] at hs ⊢
  have hdel := deleteFunc_any (w.alloc (.cells #[.int .i64 i, .int .i64 g] 39)) wv W h1.wants w.heap.size (i, g) box_file (fun r hr e => by have := h.wants.lt hr; omega)
  obtain ⟨wa, wn, wc, rfl⟩ := LOut.shape h.wants
  have HDEL := Lib.hid hdel
  have HG := Lib.hid hg
  have HS := Lib.hid hs
  have H1 := Lib.hid h1
  have HH := Lib.hid h
  clear ho hg hs hse hdel h1
  go_enter Try.func25, Try.ntmps25
  go_wp2_with (first
    | (go_at_call 30; refine hm.mono ?_; rintro e w' ⟨rfl, hw⟩; obtain rfl := hw.symm; clear hw)
    | fail)
  refine HDEL.out.mono ?_
  rintro e w2 ⟨⟨v', rfl, hO, hown⟩, hm2⟩
  obtain ⟨va, vn, vc, rfl⟩ := LOut.shape hO
  have hblk2 := hm2.heap H1.out.blk (fun e => (H1.out.own b e).1 rfl)
  have d5 := cell_of (o := 5) hblk2 rfl
  have f5 := free_of (o := 5) hblk2
  have hmT : Mod (fun x => x = b ∨ (Value.slice wa wn wc).ownBlock = some x) (w.alloc (.cells #[.int .i64 i, .int .i64 g] 39)) (w2.setCell ⟨b, 5, none⟩ (.slice va vn vc)) := (hm2.mono fun x _ h => .inr h).setCell _ _ fun _ => .inl rfl
  have hO3 : LOut enF 2 39 0 (w2.setCell ⟨b, 5, none⟩ (.slice va vn vc)) (.slice va vn vc) (W.filter (ne_ (i, g))) := hO.kept (by simp [World.setCell]) fun r hr => heap_setCell_ne (a := ⟨b, 5, none⟩) (show r ≠ b from (H1.out.own r (hown r hr)).1)
  have h3 : HAt (w2.setCell ⟨b, 5, none⟩ (.slice va vn vc)) b m lb ph se bo L clk G (.slice va vn vc) (W.filter (ne_ (i, g))) t u := H1.out.rewant (heap_setCell_at hblk2) hmT hO3 (fun r hr => .inl (hown r hr))
  have hbx1 : Lies (w.alloc (.cells #[.int .i64 i, .int .i64 g] 39)) w.heap.size 0 #[.int .i64 i, .int .i64 g] := box_file
  have hbxlt : w.heap.size < (w.alloc (.cells #[.int .i64 i, .int .i64 g] 39)).heap.size := by simp
  have hnb : ¬ (w.heap.size = b ∨ (Value.slice wa wn wc).ownBlock = some w.heap.size) := fun e => by
    rcases e with e | e
    · have := HH.out.b_lt; omega
    · have := HH.out.wants.lt e; omega
  have hbx3 : Lies (w2.setCell ⟨b, 5, none⟩ (.slice va vn vc)) w.heap.size 0 #[.int .i64 i, .int .i64 g] := fun j hj => (World.cell?_of_block (a := ⟨w.heap.size, 0 + j, none⟩) (hmT.block w.heap.size hbxlt hnb)).trans (hbx1 j hj)
  have H3 := Lib.hid h3
  have HMT := Lib.hid (((Mod.of_below hb).mono (T := fun x => x = b ∨ (Value.slice wa wn wc).ownBlock = some x) fun x hx hh => absurd hx (Nat.not_lt.2 hh)).trans hmT (fun _ h => h) (fun _ _ h => h))
  have HBX := Lib.hid hbx3
  have HOWN := Lib.hid hown
  clear h3 hmT hO3 hblk2 hO hm2 hbx1 hbx3 hnb c5 hown
  go_upto_region 4 with (fail)
  obtain ⟨w3, hw3⟩ : ∃ w3, w2.setCell ⟨b, 5, none⟩ (.slice va vn vc) = w3 := ⟨_, rfl⟩
  rw [hw3] at H3 HMT HBX
  rw [hw3]
  clear hw3 d5 f5
  have hS : MRd b m w.heap.size i g L clk w3.drew := ⟨H3.out.c4, H3.out.map, HBX.out⟩
  have hsz3 : w.heap.size ≤ w3.heap.size := HMT.out.size
  refine wp_region_x (MRd b m w.heap.size i g L clk) [(0, 1), (1, 1), (2, 1), (3, 0), (4, 0), (5, 0), (6, 1), (7, 1), (8, 1), (9, 2), (10, 3), (11, 1)] (by kernel_rfl) (by kernel_rfl) (by intro d v c a w h; cases d <;> exact h) ?_
  iterate 3 (refine x_take rfl (fun K hK => ?_); go_simp; refine hK _ ?_; clear hK K)
  refine x_read rfl hS (fun w' h => exec_load1 scalarMap rfl h.c4) ?_
  refine x_read rfl hS (fun w' h => exec_loadA (aggF _ _) rfl h.box) ?_
  refine x_read rfl hS (fun w' h => exec_lookup_ok keyF Try.underlying52 zeroO h.map rfl (i, g) rfl) ?_
  rw [HG.out, HS.out]
  iterate 3 (refine x_take rfl (fun K hK => ?_); go_simp; refine hK _ ?_; clear hK K)
  refine x_show' rfl (fun K hK => ?_)
  go_simp
  refine hK _ _ (hS.alloc _) ?_
  clear hK K
  refine x_exec' rfl (fun K hK => ?_)
  go_simp
  refine hK _ _ ?_
  clear hK K
  iterate 1 (refine x_take rfl (fun K hK => ?_); go_simp; refine hK _ ?_; clear hK K)
  refine x_nil ?_
  have hb4 : Below w3.heap.size w3 ((w3.alloc (.cells #[.int .i64 md, .int .u64 vr, .bool cl] 68)).drew) := ((Below.refl _ _).alloc (Nat.le_refl _) _).drew
  have H4 := Lib.hid (H3.out.below hb4)
  have hS4 := MRd.drew (MRd.alloc (⟨H3.out.c4, H3.out.map, HBX.out⟩ : MRd b m w.heap.size i g L clk w3) (.cells #[.int .i64 md, .int .u64 vr, .bool cl] 68))
  have HS4 := Lib.hid hS4
  have HM4 := Lib.hid (HMT.out.trans (Mod.of_below hb4) (fun _ h => h) fun x hx hh => absurd (Nat.lt_of_lt_of_le hx hsz3) (Nat.not_lt.2 hh))
  clear hb4 hS4 hS
  cases s
  · go_wp2
    go_ret
    refine ⟨rfl, ⟨_, ⟨_, _, H4.out, Nat.le_refl _⟩, HOWN.out⟩, HM4.out.mono fun x _ hx => ?_⟩
    rcases hx with hx | hx
    · exact .inl hx
    · exact .inr (.inr hx)
  · go_upto_region 7 with (fail)
    generalize (w3.alloc (.cells #[.int .i64 md, .int .u64 vr, .bool cl] 68)).drew = w4 at *
    have hS5 := HS4.out.drew
    refine wp_region_x (MRd b m w.heap.size i g L clk) [(0, 1), (1, 1), (2, 1), (3, 0), (4, 0), (5, 3)] (by kernel_rfl) (by kernel_rfl) (by intro d v c a w h; cases d <;> exact h) ?_
    iterate 3 (refine x_take rfl (fun K hK => ?_); go_simp; refine hK _ ?_; clear hK K)
    refine x_read rfl hS5 (fun w' h => exec_load1 scalarMap rfl h.c4) ?_
    refine x_read rfl hS5 (fun w' h => exec_loadA (aggF _ _) rfl h.box) ?_
    refine x_exec rfl (exec_delete (w := w4.drew) keyF Try.underlying52 hS5.map rfl (i, g) rfl) ?_
    refine x_nil ?_
    have hP := H4.out.deled (i, g) ((Below.refl w4.heap.size w4).drew)
    have HP := Lib.hid hP
    clear hP hS5
    go_wp2
    go_ret
    refine ⟨rfl, ⟨_, ⟨_, _, HP.out.1, del_len⟩, HOWN.out⟩, (HM4.out.mono (T := fun x => x = b ∨ x = m ∨ (Value.slice wa wn wc).ownBlock = some x) fun x _ hx => ?_).trans HP.out.2 (fun _ h => h) (fun _ _ h => .inr (.inl h))⟩
    rcases hx with hx | hx
    · exact .inl hx
    · exact .inr (.inr hx)
end
end Go.Proofs.Ythckjciblngaaaa
