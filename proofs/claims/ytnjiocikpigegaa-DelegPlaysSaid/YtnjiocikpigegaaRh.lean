/- The document's Drop walked; Before. -/
import Derived.Test.YtnjiocikpigegaaRg
namespace Go.Proofs.Ytnjiocikpigegaa
open Go.RowKit Go.Tn Go.Tn.Mo Go.Maps Go.Sort Go.Shelf

theorem LOut.shape {α : Type} {en : α → List Value} {k B : Nat} {e : TypeId} {w : World} {v : Value} {xs : List α} (h : LOut en k e B w v xs) : ∃ a n c, v = .slice a n c := by
  rcases h.own.2 with ⟨hv, _⟩ | ⟨g, cap, cur, hv, _⟩
  · exact ⟨_, _, _, hv⟩
  · exact ⟨_, _, _, hv⟩
theorem sizeRow : (Try.prog.info? 63).map (·.size) = some 4 := by kernel_rfl

set_option maxRecDepth 20000 in
set_option maxHeartbeats 4000000 in
theorem rDrop_any (w : World) (B xb : Nat) (sv : Value) (R : List RowR) (h : RTab w B xb sv R) (M : Fi → Nat) (hok : RowsOk M R) (i g client : Int) : Calls Try.prog 15 #[.pointer (some ⟨xb, 0, none⟩), .agg #[.int .i64 i, .int .i64 g], .int .i64 client] w
    fun e w' => e = .returned (.int .i64 (dropE (M (i, g)) client)) ∧ Turned w w' B xb sv (dropM M (i, g) client) R.length := by
  obtain ⟨w1, hw1⟩ : ∃ w1, w.alloc (.cells #[.int .i64 i, .int .i64 g] 24) = w1 := ⟨_, rfl⟩
  have hW : Below w.heap.size w w1 := by rw [← hw1]; exact (Below.refl _ _).alloc (Nat.le_refl _) _
  have hs1 : w1.heap.size = w.heap.size + 1 := by rw [← hw1]; simp
  have hbox : Lies w1 w.heap.size 0 #[.int .i64 i, .int .i64 g] := by rw [← hw1]; exact box_file
  have p0 : w1.cell? ⟨w.heap.size, 0, none⟩ = some (.int .i64 i) := hbox 0 (by simp)
  have p1 : w1.cell? ⟨w.heap.size, 1, none⟩ = some (.int .i64 g) := hbox 1 (by simp)
  have h1 := h.below hW
  have H1 := Lib.hid hw1
  have hxb := lt_of_block h.blk
  have hB := h.own.le
  have halike := hok.alike (i, g) client
  obtain ⟨ev, hev⟩ : ∃ ev, dropE (M (i, g)) client = ev := ⟨_, rfl⟩
  obtain ⟨MM, hMM⟩ : ∃ MM, dropM M (i, g) client = MM := ⟨_, rfl⟩
  rw [hev, hMM]
  have HE := Lib.hid hev
  have HM := Lib.hid hMM
  clear hw1 hbox hev hMM
  go_enter Try.func15, Try.ntmps15
  go_upto_region 1 with (fail)
  rw [H1.out]
  go_wp2_with fail
  refine (rAt_any w1 B xb sv R h1 i g client).mono ?_
  rintro e w3 ⟨⟨v3, rfl, hat⟩, hb3⟩
  have h3 := h1.below hb3
  have hB3 : Below w.heap.size w w3 := hW.trans (hb3.mono (by omega))
  have c0 := h3.c0
  rcases rm_at hat with ⟨k, r, rfl, hk, hh, hrm, _⟩ | ⟨rfl, hrm, _⟩
  · obtain ⟨hfr, hrc⟩ := hit_file.1 hh
    obtain ⟨x, hx8, hcx, hmx, hmz⟩ := hok.row r (List.mem_of_getElem? hk)
    have hcl : client = (x : Int) := by rw [← hrc, hcx]
    have hmi : modeI (M (i, g)) client ≠ 0 := by
      rw [hcl, modeI_nat _ hx8]
      rw [hfr] at hmz
      exact hmz
    have hE0 : ev = 0 := by rw [← HE.out]; unfold dropE; rw [if_neg hmi]
    have hok' := hok.less hk hx8 hcx
    have hM0 : MM = setM M (fileR r) (wi (M (fileR r)) x 0) := by rw [← HM.out]; unfold dropM; rw [if_neg hmi, hfr, hcl, Int.toNat_natCast]
    rw [← hM0] at hok'
    have hkl := (List.getElem?_eq_some_iff.1 hk).1
    have hkl' : (k : Int) < (R.length : Int) := by omega
    have hk0 : (0 : Int) ≤ (k : Int) := by omega
    have hlen := h3.len
    have hsl3 := h3.own.sl elR.len
    obtain ⟨ao, cap, rfl, hcl1, hcm1, _⟩ := h3.own.sl elR.len
    have hkc : k ≤ cap := by omega
    have hu1 := hsl3.take (i := k) (by omega)
    have hnil : LOut enR 4 63 B w3 (.slice none 0 0) ([] : List RowR) := LOut.nil (by have := hB3.size; omega)
    have hlt3 : xb < w3.heap.size := by have := hB3.size; omega
    have HK := Lib.hid hok'
    have H3 := Lib.hid h3
    have HS := Lib.hid hsl3
    subst hE0
    clear hat hrm hh hfr hrc hcx hmx hmz hcl hmi hok' hM0 hk halike hsl3 p0 p1
    go_upto_region 6 with (first
      | ((with_reducible refine wpList_exec rfl (exec_sliceHi Try.underlying39 sizeRow hkc ?_ ?_) ?_); rfl; rfl; go_frame)
      | ((with_reducible refine wpList_appendN elR hnil hu1 (by simp; omega) ?_ ?_ ?_); rfl; rfl; (intro v5 w5 hO5 hg5 hl5); go_frame)
      | fail)
    have hb5 : Below w3.heap.size w3 w5 := (Below.refl _ w3).grown hg5 (Nat.le_refl _) (fun k e => by cases e)
    have h5 := H3.out.below hb5
    have hsl5 := HS.out.below hb5
    have hu2 := hsl5.drop (i := k + 1) (by omega)
    have c5 := h5.c0
    have hown5 : ∀ r, v5.ownBlock = some r → w3.heap.size ≤ r := fun r hr => by
      rcases hl5 with h | h
      · rw [h] at hr; cases hr
      · rw [h] at hr; cases hr; exact Nat.le_refl _
    rw [List.nil_append] at hO5
    have hxs : (R.take k).length + (R.drop (k + 1)).length ≤ 100000 := by rw [List.length_take, List.length_drop]; omega
    have hkl2 : k + 1 ≤ R.length := by omega
    have hlr := len_less hkl
    have HL := Lib.hid hlr
    have HO := Lib.hid hown5
    have hbl : xb < w5.heap.size := by have := hb5.size; omega
    have hB5 : Below w.heap.size w w5 := hB3.trans (hb5.mono hB3.size)
    have h5b := h5.blk
    have hs35 : w3.heap.size ≤ w5.heap.size := hb5.size
    have hs53 : w.heap.size ≤ w3.heap.size := hB3.size
    have hBle : B ≤ w5.heap.size := h5.own.le
    clear hlr hown5 hu1 hnil hg5 hl5 hsl5 c0 h5
    go_wp2_with (first
      | ((with_reducible refine wpList_exec rfl (exec_sliceLo Try.underlying39 sizeRow hkl2 ?_ ?_) ?_); rfl; rfl; go_frame)
      | ((with_reducible refine wpList_appendN elR hO5 hu2 hxs ?_ ?_ ?_); rfl; rfl; (intro v6 w6 hO6 hg6 hl6; obtain ⟨a6, n6, cap6, rfl⟩ := LOut.shape hO6; have hb6 : w6.heap[xb]? = some (.cells #[.slice ao R.length cap] 41 (0, 0)) := (hg6.block xb hbl (fun e => by have := HO.out xb e.symm; omega)).trans h5b; have s1 := cell_of (o := 0) (v := .slice ao R.length cap) hb6 rfl; have s2 := free_of (o := 0) hb6); go_frame)
      | fail)
    all_goals
      go_ret
      have hown6 : ∀ r, (Value.slice a6 n6 cap6).ownBlock = some r → w3.heap.size ≤ r := fun r hr => by
        rcases hl6 with h | h
        · exact HO.out r (h ▸ hr)
        · rw [h] at hr; cases hr; omega
      have hlen6 : (R.take k ++ R.drop (k + 1)).length ≤ R.length := by have := HL.out; omega
      refine ⟨rfl, ⟨_, _, ⟨heap_setCell_at hb6, hO6.kept (by simp [World.setCell]) (fun r hr => heap_setCell_ne (a := ⟨xb, 0, none⟩) (show r ≠ xb by have := hown6 r hr; omega)), fun r hr e => by have := hown6 r hr; omega, by omega⟩, HK.out, hlen6, fun r hr => .inr (by have := hown6 r hr; omega)⟩, ?_⟩
      have hm5 : Mod (fun x => x = xb) w w5 := (Mod.of_below hB5).mono (fun x hx hh => absurd hx (Nat.not_lt.2 hh))
      exact ((hm5.grown hg6 fun r hr hlt => absurd (HO.out r hr) (by omega)).setCell _ _ fun _ => rfl).mono fun x _ hx => .inl hx
  · have hz : modeI (M (i, g)) client = 0 := by omega
    have hE0 : ev = 11 := by rw [← HE.out]; unfold dropE; rw [if_pos hz]
    have hM0 : MM = M := by rw [← HM.out]; unfold dropM; rw [if_pos hz]
    subst hE0
    have hst := h.stay (M := MM) (by rw [hM0]; exact hok) hB3 R.length (Nat.le_refl _)
    clear hat hrm hz hM0
    go_wp2
    go_ret
    exact ⟨rfl, hst⟩

/-- Before. -/
def befB (a b : Fi) : Bool := ltOf cmpF a b
set_option maxHeartbeats 1000000 in
theorem before_any (w : World) (a b : Fi) : Calls Try.prog 34 #[.agg #[.int .i64 a.1, .int .i64 a.2], .agg #[.int .i64 b.1, .int .i64 b.2]] w fun e w' => e = .returned (.bool (ltOf cmpF a b)) ∧ Below w.heap.size w w' := by
  obtain ⟨i, g⟩ := a
  obtain ⟨i', g'⟩ := b
  obtain ⟨v, hv⟩ : ∃ v, ltOf cmpF (i, g) (i', g') = v := ⟨_, rfl⟩
  rw [hv]
  have h4 : (i < i' ∧ v = true) ∨ (¬ i < i' ∧ i ≠ i' ∧ v = false) ∨ (i = i' ∧ g < g' ∧ v = true) ∨ (i = i' ∧ ¬ g < g' ∧ v = false) := by
    rw [← hv]
    rw [ltF_iff, ltF_no]
    simp only
    omega
  clear hv
  have hb : Below w.heap.size w ((w.alloc (.cells #[.int .i64 i, .int .i64 g] 24)).alloc (.cells #[.int .i64 i', .int .i64 g'] 24)) := ((Below.refl _ _).alloc (Nat.le_refl _) _).alloc (by simp) _
  rcases h4 with ⟨h1, rfl⟩ | ⟨h1, h2, rfl⟩ | ⟨rfl, h1, rfl⟩ | ⟨rfl, h1, rfl⟩
  · go_enter Try.func34, Try.ntmps34
    go_wp2
    go_ret
    exact ⟨rfl, hb⟩
  · have t : (i == i') = false := by simpa using h2
    clear h2
    go_enter Try.func34, Try.ntmps34
    go_wp2
    go_ret
    exact ⟨rfl, hb⟩
  · go_enter Try.func34, Try.ntmps34
    go_wp2
    go_ret
    exact ⟨rfl, hb⟩
  · go_enter Try.func34, Try.ntmps34
    go_wp2
    go_ret
    exact ⟨rfl, hb⟩
end Go.Proofs.Ytnjiocikpigegaa
