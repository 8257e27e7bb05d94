/- The document's Grant, Drop walked. -/
import Derived.Test.YtnjiocikpigegaaRp
import Derived.Test.YtnjiocikpigegaaSlc
namespace Go.Proofs.Ytnjiocikpigegaa
open Go.RowKit Go.Tn Go.Tn.Mo Go.Maps Go.Sort Go.Shelf

/-- What a change of the document's table leaves. -/
structure Turned (w w' : World) (B xb : Nat) (sv : Value) (M' : Fi → Nat) (n : Nat) : Prop where
  rows : ∃ sv' R', RTab w' B xb sv' R' ∧ RowsOk M' R' ∧ R'.length ≤ n ∧ ∀ r, sv'.ownBlock = some r → sv.ownBlock = some r ∨ w.heap.size ≤ r
  mod : Mod (fun x => x = xb ∨ sv.ownBlock = some x) w w'
theorem RTab.stay {w w' : World} {B xb : Nat} {sv : Value} {R : List RowR} {M : Fi → Nat} (h : RTab w B xb sv R) (hok : RowsOk M R) (hb : Below w.heap.size w w') (n : Nat) (hn : R.length ≤ n) : Turned w w' B xb sv M n :=
  ⟨⟨sv, R, h.below hb, hok, hn, fun r hr => .inl hr⟩, (Mod.of_below hb).mono fun x hx hh => absurd hx (Nat.not_lt.2 hh)⟩

/-- The list appended to, the table's cell behind it. -/
theorem RTab.pushed {w3 w4 : World} {o : Obj} {B xb : Nat} {sv v' : Value} {R R' : List RowR} (h : RTab w3 B xb sv R) (hO : LOut enR 4 63 B w4 v' R') (hg : (w3.alloc o).grownBy w4 sv.ownBlock) (hl : v'.ownBlock = sv.ownBlock ∨ v'.ownBlock = some (w3.alloc o).heap.size) (hlen : R'.length ≤ 1000) :
    (w4.cell? ⟨xb, 0, none⟩ = some sv ∧ w4.frozen? ⟨xb, 0, none⟩ = false) ∧ RTab (w4.setCell ⟨xb, 0, none⟩ v') B xb v' R' ∧ Mod (fun x => x = xb ∨ sv.ownBlock = some x) w3 (w4.setCell ⟨xb, 0, none⟩ v') ∧ ∀ r, v'.ownBlock = some r → sv.ownBlock = some r ∨ w3.heap.size ≤ r := by
  have hx := lt_of_block h.blk
  have hb4 : w4.heap[xb]? = some (.cells #[sv] 41 (0, 0)) := (hg.block xb (by simp; omega) (fun e => h.ne xb e.symm rfl)).trans (heap_alloc_of h.blk)
  have hown : ∀ r, v'.ownBlock = some r → (sv.ownBlock = some r ∨ w3.heap.size ≤ r) := fun r hr => by
    rcases hl with h1 | h1
    · exact .inl (h1 ▸ hr)
    · rw [h1] at hr
      cases hr
      exact .inr (by simp)
  have hne : ∀ r, v'.ownBlock = some r → r ≠ xb := fun r hr e => by
    rcases hown r hr with h1 | h1
    · exact h.ne r h1 e
    · omega
  refine ⟨⟨cell_of hb4 rfl, free_of hb4⟩, ⟨heap_setCell_at hb4, hO.kept (by simp [World.setCell]) (fun r hr => heap_setCell_ne (hne r hr)), hne, hlen⟩, ?_, hown⟩
  refine (((Mod.refl _ w3).alloc o).grown hg fun r hr _ => .inr hr).setCell _ _ fun _ => .inl rfl
theorem RowsOk.congr {M M' : Fi → Nat} {R : List RowR} (h : RowsOk M R) (he : ∀ f x, x < 8 → mo (M' f) x = mo (M f) x) : RowsOk M' R :=
  ⟨h.uniq, fun r hr => by
    obtain ⟨x, h1, h2, h3, h4⟩ := h.row r hr
    exact ⟨x, h1, h2, by rw [he _ _ h1]; exact ⟨h3, h4⟩⟩, fun f x hx hm => h.all f x hx (by rw [← he f x hx]; exact hm)⟩

set_option maxRecDepth 20000 in
set_option maxHeartbeats 4000000 in
theorem rGrant_any (w : World) (B xb : Nat) (sv : Value) (R : List RowR) (h : RTab w B xb sv R) (M : Fi → Nat) (hok : RowsOk M R) (htwo : ∀ f c, c < 8 → mo (M f) c ≤ 2) (hroom : R.length < 1000) (i g client mode : Int) : Calls Try.prog 14 #[.pointer (some ⟨xb, 0, none⟩), .agg #[.int .i64 i, .int .i64 g], .int .i64 client, .int .i64 mode] w
    fun e w' => e = .returned (.int .i64 (grantE (M (i, g)) client mode)) ∧ Turned w w' B xb sv (grantM M (i, g) client mode) (R.length + 1) := by
  obtain ⟨w1, hw1⟩ : ∃ w1, w.alloc (.cells #[.int .i64 i, .int .i64 g] 24) = w1 := ⟨_, rfl⟩
  have hW : Below w.heap.size w w1 := by rw [← hw1]; exact (Below.refl _ _).alloc (Nat.le_refl _) _
  have hs1 : w1.heap.size = w.heap.size + 1 := by rw [← hw1]; simp
  have hbox : Lies w1 w.heap.size 0 #[.int .i64 i, .int .i64 g] := by rw [← hw1]; exact box_file
  have h1 := h.below hW
  have H1 := Lib.hid hw1
  have hxb := lt_of_block h.blk
  clear hw1
  unfold grantM
  by_cases hbad : client < 0 ∨ 8 ≤ client ∨ (mode ≠ 1 ∧ mode ≠ 2)
  · have he : grantE (M (i, g)) client mode = 2 := by unfold grantE; rw [if_pos hbad]
    rw [he, if_neg (by decide)]
    have hst := h.stay hok hW (R.length + 1) (by omega)
    have HST := Lib.hid hst
    have h4 : client < 0 ∨ (0 ≤ client ∧ 7 < client) ∨ (0 ≤ client ∧ client ≤ 7 ∧ mode < 1) ∨ (0 ≤ client ∧ client ≤ 7 ∧ 1 ≤ mode ∧ 2 < mode) := by omega
    clear hbad hst he
    rcases h4 with h4 | ⟨h4, h5⟩ | ⟨h4, h5, h6⟩ | ⟨h4, h5, h6, h7⟩
    all_goals
      go_enter Try.func14, Try.ntmps14
      go_upto_region 1 with (fail)
      rw [H1.out]
      go_wp2
      go_ret
      exact ⟨rfl, HST.out⟩
  · obtain ⟨c, rfl⟩ : ∃ c : Nat, client = (c : Int) := ⟨client.toNat, by omega⟩
    obtain ⟨d, rfl⟩ : ∃ d : Nat, mode = (d : Int) := ⟨mode.toNat, by omega⟩
    have hc8 : c < 8 := by omega
    have hd : d = 1 ∨ d = 2 := by omega
    have k1 : (0 : Int) ≤ (c : Int) := by omega
    have k2 : (c : Int) ≤ 7 := by omega
    have k3 : (1 : Int) ≤ (d : Int) := by omega
    have k4 : (d : Int) ≤ 2 := by omega
    have hot := rOthers_any w1 B xb sv R h1 M hok.alike i g c d
    by_cases hne : otherL (M (i, g)) c d ≠ []
    · have he : grantE (M (i, g)) c d = 21 := by unfold grantE; rw [if_neg hbad, if_pos hne]
      rw [he, if_neg (by decide)]
      have hpos : (0 : Int) < (((ints (otherL (M (i, g)) c d)).length : Nat) : Int) := by
        rw [ints_len]
        have := List.length_pos_iff.2 hne
        omega
      have p0 : w1.cell? ⟨w.heap.size, 0, none⟩ = some (.int .i64 i) := hbox 0 (by simp)
      have p1 : w1.cell? ⟨w.heap.size, 1, none⟩ = some (.int .i64 g) := hbox 1 (by simp)
      have HO := Lib.hid hot
      clear hbad hne he hot
      generalize ints (otherL (M (i, g)) c d) = os at *
      go_enter Try.func14, Try.ntmps14
      go_upto_region 1 with (fail)
      rw [H1.out]
      go_wp2_with fail
      refine HO.out.mono ?_
      rintro e w2 ⟨⟨v2, rfl, hO2⟩, hb2⟩
      obtain ⟨ao, cap, rfl, _⟩ := hO2.sl elI.len
      clear hO2
      go_wp2
      go_ret
      exact ⟨rfl, h.stay hok (hW.trans (hb2.mono (by omega))) _ (by omega)⟩
    · have he : grantE (M (i, g)) c d = 0 := by unfold grantE; rw [if_neg hbad, if_neg hne]
      rw [he, if_pos rfl]
      have hnil : otherL (M (i, g)) c d = [] := Decidable.not_not.1 hne
      rw [hnil] at hot
      have p0 : w1.cell? ⟨w.heap.size, 0, none⟩ = some (.int .i64 i) := hbox 0 (by simp)
      have p1 : w1.cell? ⟨w.heap.size, 1, none⟩ = some (.int .i64 g) := hbox 1 (by simp)
      have hgv : grantV (M (i, g)) c d = wi (M (i, g)) c (max d (mo (M (i, g)) c)) := by unfold grantV; rw [Int.toNat_natCast, Int.toNat_natCast]
      obtain ⟨y, hy⟩ : ∃ y, max d (mo (M (i, g)) c) = y := ⟨_, rfl⟩
      rw [hgv, hy]
      have HY := Lib.hid hy
      clear hy
      have HO := Lib.hid hot
      clear hbad hne he hot hnil hgv
      go_enter Try.func14, Try.ntmps14
      go_upto_region 1 with (fail)
      rw [H1.out]
      go_wp2_with fail
      refine HO.out.mono ?_
      rintro e w2 ⟨⟨v2, rfl, hO2⟩, hb2⟩
      obtain ⟨ao, cap, rfl, _⟩ := hO2.sl elI.len
      have hlz : ((ints []).length : Int) = 0 := rfl
      have h2 := h1.below hb2
      have q0 : w2.cell? ⟨w.heap.size, 0, none⟩ = some (.int .i64 i) := (hb2.cell (p := ⟨w.heap.size, 0, none⟩) (by show w.heap.size < w1.heap.size; omega)).trans p0
      have q1 : w2.cell? ⟨w.heap.size, 1, none⟩ = some (.int .i64 g) := (hb2.cell (p := ⟨w.heap.size, 1, none⟩) (by show w.heap.size < w1.heap.size; omega)).trans p1
      clear hO2 p0 p1 hbox
      go_wp2_with fail
      refine (rAt_any w2 B xb sv R h2 i g c).mono ?_
      rintro e w3 ⟨⟨v3, rfl, hat⟩, hb3⟩
      have h3 := h2.below hb3
      have r0 : w3.cell? ⟨w.heap.size, 0, none⟩ = some (.int .i64 i) := (hb3.cell (p := ⟨w.heap.size, 0, none⟩) (by show w.heap.size < w2.heap.size; have := hb2.size; omega)).trans q0
      have r1 : w3.cell? ⟨w.heap.size, 1, none⟩ = some (.int .i64 g) := (hb3.cell (p := ⟨w.heap.size, 1, none⟩) (by show w.heap.size < w2.heap.size; have := hb2.size; omega)).trans q1
      have hB3 : Below w.heap.size w w3 := hW.trans ((hb2.trans (hb3.mono hb2.size)).mono (by omega))
      have hal := hok.alike (i, g) c
      rw [modeI_nat _ hc8] at hal
      have c0 := h3.c0
      clear q0 q1 hlz
      rcases rm_at hat with ⟨k, r, rfl, hk, hh, hrm, _⟩ | ⟨rfl, hrm, _⟩
      · obtain ⟨hfr, hrc⟩ := hit_file.1 hh
        have hkl := (List.getElem?_eq_some_iff.1 hk).1
        have hkl' : (k : Int) < (R.length : Int) := by omega
        have hk0 : (0 : Int) ≤ (k : Int) := by omega
        have hfr' : fileR r = (i, g) := hfr
        have hrm' : r.m = ((mo (M (i, g)) c : Nat) : Int) := by rw [← hrm]; exact hal
        obtain ⟨b4, o4, cap4, rfl, hb4, hco⟩ := (h3.own.sl elR.len).at_ hk
        have q3 : w3.cell? ⟨b4, o4 + k * 4 + 3, none⟩ = some (.int .i64 r.m) := hco 3 (by simp [enR])
        have hfz := h3.own.frozen (o4 + k * 4 + 3)
        by_cases hlt : r.m < (d : Int)
        · have hmax : d = y := by have := HY.out; omega
          have hok' := hok.rise hk hc8 hrc hd
          rw [hfr'] at hok'
          have hO5 := h3.own.set elR.len (i := k) (j := 3) (x := r) (y := { r with m := (d : Int) }) (u := .int .i64 d) hk (by decide) rfl
          have hne4 := h3.ne b4 rfl
          have hblk5 : (w3.setCell ⟨b4, o4 + k * 4 + 3, none⟩ (.int .i64 d)).heap[xb]? = some (.cells #[.slice (some ⟨b4, o4, none⟩) R.length cap4] 41 (0, 0)) := heap_setCell_of h3.blk (fun e => hne4 e.symm)
          have hfin : Turned w (w3.setCell ⟨b4, o4 + k * 4 + 3, none⟩ (.int .i64 d)) B xb (.slice (some ⟨b4, o4, none⟩) R.length cap4) (setM M (i, g) (wi (M (i, g)) c y)) (R.length + 1) := by
            rw [← hmax]
            refine ⟨⟨_, _, ⟨hblk5, hO5, h3.ne, by rw [List.length_set]; exact h3.len⟩, hok', by rw [List.length_set]; omega, fun r hr => .inl hr⟩, ?_⟩
            exact ((Mod.of_below hB3).mono (fun x hx hh => absurd hx (Nat.not_lt.2 hh))).setCell _ _ fun _ => .inr rfl
          have HF := Lib.hid hfin
          clear hfin hok' hO5 hblk5 hmax hrm' hrm hal hat hk hh hfr hfr' hrc hco
          go_wp2
          go_ret
          exact ⟨rfl, HF.out⟩
        · have hge : (d : Int) ≤ r.m := by omega
          have hmax : mo (M (i, g)) c = y := by have := HY.out; omega
          have hok' : RowsOk (setM M (i, g) (wi (M (i, g)) c y)) R := hok.congr fun f x hx => by
            rw [← hmax]
            have h2 := htwo (i, g) c hc8
            rw [mo_set hc8 (by omega) f hx]
            split
            · rename_i hfx
              rw [hfx.1, hfx.2]
            · rfl
          have hfin := h.stay hok' hB3 (R.length + 1) (by omega)
          have HF := Lib.hid hfin
          clear hfin hok' hmax hrm' hrm hal hat hk hh hfr hfr' hrc hco hlt
          go_wp2
          go_ret
          exact ⟨rfl, HF.out⟩
      · have hz : mo (M (i, g)) c = 0 := by omega
        have hmax : d = y := by have := HY.out; omega
        have hok' := hok.add (i, g) hc8 hd hz
        have hok' : RowsOk (setM M (i, g) (wi (M (i, g)) c y)) (R ++ [⟨i, g, c, d⟩]) := by rw [← hmax]; exact hok'
        have hal4 : Below w3.heap.size w3 (w3.alloc (.cells #[.int .i64 i, .int .i64 g, .int .i64 c, .int .i64 d] 63)) := (Below.refl _ _).alloc (Nat.le_refl _) _
        have hown4 := h3.own.below hal4
        have hlit : LSl enR 4 (w3.alloc (.cells #[.int .i64 i, .int .i64 g, .int .i64 c, .int .i64 d] 63)) (.slice (some ⟨w3.heap.size, 0, none⟩) 1 1) [⟨i, g, c, d⟩] := LSl.lit elR.len 63
        have HK := Lib.hid hok'
        have H3 := Lib.hid h3
        clear hmax hz hrm hal hat hok' h3 hal4
        go_wp2_with (first
          | ((with_reducible refine wpList_appendN elR hown4 hlit (by simp; omega) ?_ ?_ ?_); rfl; rfl; (intro v5 w5 hO5 hg5 hl5; obtain ⟨a5, cap5, rfl, _⟩ := hO5.sl elR.len; obtain ⟨⟨s1, s2⟩, s3, s4, s5⟩ := RTab.pushed H3.out hO5 hg5 hl5 (by simp; omega)); go_frame)
          | fail)
        go_ret
        have hl1 : (R ++ [(⟨i, g, c, d⟩ : RowR)]).length = R.length + 1 := by simp
        rw [hl1] at s3 s4 s5
        refine ⟨rfl, ⟨_, _, s3, HK.out, by simp, fun r hr => ?_⟩, ?_⟩
        · rcases s5 r hr with h | h
          · exact .inl h
          · exact .inr (Nat.le_trans hB3.size h)
        · exact (((Mod.of_below hB3).mono (fun x hx hh => absurd hx (Nat.not_lt.2 hh)) : Mod (fun x => x = xb ∨ sv.ownBlock = some x) w w3)).trans s4 (fun _ h => h) (fun _ _ h => h)
end Go.Proofs.Ytnjiocikpigegaa
