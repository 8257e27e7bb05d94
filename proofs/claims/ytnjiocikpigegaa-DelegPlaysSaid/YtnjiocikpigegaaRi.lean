/- The document's Of walked: files in their order, each once. -/
import Derived.Test.YtnjiocikpigegaaRh
import Derived.Deep.DeepCutAuto
import Derived.Deep.CutBlock
namespace Go.Proofs.Ytnjiocikpigegaa
open Go.RowKit Go.Tn Go.Tn.Mo Go.Maps Go.Sort Go.Shelf

abbrev Srt (l : List Fi) : Prop := l.Pairwise fun a b => ltOf cmpF a b = true
/-- Which files of the first k rows. -/
def Sel (R : List RowR) (client : Int) (k : Nat) (f : Fi) : Prop := ∃ j r, j < k ∧ R[j]? = some r ∧ fileR r = f ∧ (client < 0 ∨ r.c = client)
theorem Sel.succ {R : List RowR} {client : Int} {k : Nat} {r : RowR} (hk : R[k]? = some r) (f : Fi) : Sel R client (k + 1) f ↔ Sel R client k f ∨ (fileR r = f ∧ (client < 0 ∨ r.c = client)) := by
  constructor
  · rintro ⟨j, s, h1, h2, h3, h4⟩
    by_cases hj : j = k
    · subst hj
      rw [hk] at h2
      cases h2
      exact .inr ⟨h3, h4⟩
    · exact .inl ⟨j, s, by omega, h2, h3, h4⟩
  · rintro (⟨j, s, h1, h2, h3, h4⟩ | ⟨h3, h4⟩)
    · exact ⟨j, s, by omega, h2, h3, h4⟩
    · exact ⟨k, r, by omega, hk, h3, h4⟩
theorem ltF_not (a b : Fi) (h : ltOf cmpF a b = false) (hne : a ≠ b) : ltOf cmpF b a = true := by
  rw [ltF_no] at h
  rw [ltF_iff]
  have : ¬ (a.1 = b.1 ∧ a.2 = b.2) := fun ⟨e1, e2⟩ => hne (Prod.ext e1 e2)
  omega
/-- Put in where it belongs. -/
theorem Srt.ins {l : List Fi} (h : Srt l) {q : Nat} {f : Fi} (hq : q ≤ l.length) (hlo : ∀ j a, j < q → l[j]? = some a → ltOf cmpF a f = true) (hhi : ∀ a, l[q]? = some a → ltOf cmpF a f = false ∧ a ≠ f) : Srt (l.take q ++ [f] ++ l.drop q) := by
  have hup : ∀ a ∈ l.drop q, ltOf cmpF f a = true := fun a ha => by
    obtain ⟨j, hj⟩ := List.getElem?_of_mem ha
    rw [List.getElem?_drop] at hj
    have hl := (List.getElem?_eq_some_iff.1 hj).1
    have hq' : q < l.length := by omega
    obtain ⟨h1, h2⟩ := hhi l[q] (List.getElem?_eq_getElem hq')
    have h3 := ltF_not _ _ h1 h2
    by_cases h0 : j = 0
    · subst h0
      rw [Nat.add_zero, List.getElem?_eq_getElem hq'] at hj
      cases hj
      exact h3
    · exact swoF.trans _ _ _ h3 (pairwise_idx h (List.getElem?_eq_getElem hq') hj (by omega))
  have hdn : ∀ a ∈ l.take q, ltOf cmpF a f = true := fun a ha => by
    obtain ⟨j, hj⟩ := List.getElem?_of_mem ha
    rw [List.getElem?_take] at hj
    split at hj
    · exact hlo j a (by assumption) hj
    · cases hj
  refine List.pairwise_append.2 ⟨List.pairwise_append.2 ⟨h.sublist (List.take_sublist _ _), by simp, fun a ha b hb => ?_⟩, h.sublist (List.drop_sublist _ _), fun a ha b hb => ?_⟩
  · have : b = f := by simpa using hb
    subst this
    exact hdn a ha
  · rcases List.mem_append.1 ha with ha | ha
    · exact swoF.trans _ _ _ (hdn a ha) (hup b hb)
    · have : a = f := by simpa using ha
      subst this
      exact hup b hb
theorem mem_ins {l : List Fi} {q : Nat} {f x : Fi} : x ∈ l.take q ++ [f] ++ l.drop q ↔ x ∈ l ∨ f = x := by
  rw [List.mem_append, List.mem_append, List.mem_singleton]
  have : x ∈ l ↔ x ∈ l.take q ∨ x ∈ l.drop q := by rw [← List.mem_append, List.take_append_drop]
  rw [this]
  constructor
  · rintro ((h | h) | h)
    · exact .inl (.inl h)
    · exact .inr h.symm
    · exact .inl (.inr h)
  · rintro ((h | h) | h)
    · exact .inl (.inl h)
    · exact .inr h
    · exact .inl (.inr h.symm)
theorem sizeFile : (Try.prog.info? 24).map (·.size) = some 2 := by kernel_rfl

/-- Where the loop stands. -/
structure OfAt (w0 w : World) (R : List RowR) (client : Int) (k : Nat) (ov : Value) (l : List Fi) : Prop where
  out : LOut enF 2 24 w0.heap.size w ov l
  srt : Srt l
  mem : ∀ f, f ∈ l ↔ Sel R client k f
  len : l.length ≤ k
  bel : Below w0.heap.size w0 w

theorem OfAt.drewN {w0 w : World} {R : List RowR} {client : Int} {k : Nat} {ov : Value} {l : List Fi} (h : OfAt w0 w R client k ov l) (n : Nat) : OfAt w0 (w.drewN n) R client k ov l :=
  ⟨h.out.kept (Nat.le_refl _) fun _ _ => rfl, h.srt, h.mem, h.len, below_drewN h.bel n⟩
theorem OfAt.keep {w0 w w' : World} {R : List RowR} {client : Int} {k : Nat} {ov : Value} {l : List Fi} (h : OfAt w0 w R client k ov l) (hb : Below w.heap.size w w') : OfAt w0 w' R client k ov l :=
  ⟨h.out.below hb, h.srt, h.mem, h.len, h.bel.trans (hb.mono h.bel.size)⟩

set_option maxRecDepth 20000 in
set_option maxHeartbeats 16000000 in
theorem rOf_any (w : World) (B xb : Nat) (sv : Value) (R : List RowR) (h : RTab w B xb sv R) (client : Int) : Calls Try.prog 18 #[.pointer (some ⟨xb, 0, none⟩), .int .i64 client] w
    fun e w' => (∃ v l, e = .returned v ∧ LRd enF 2 w.heap.size w' v l ∧ Srt l ∧ ∀ f, f ∈ l ↔ Sel R client R.length f) ∧ Below w.heap.size w w' := by
  have hsl := h.own.sl elR.len
  have hlen := h.len
  obtain ⟨ao, cap, rfl, hcl, hcm, _⟩ := h.own.sl elR.len
  unfold maxLen at hcm
  go_enter Try.func18, Try.ntmps18
  go_wp2
  go_loopw [5, 6] (fun ov kv wr => ∃ k : Nat, k ≤ R.length ∧ kv = .int .i64 k ∧ ∃ l, OfAt w wr R client k ov l) (fun _ kv _ => R.length - (intOf kv).toNat)
  case atStart => exact ⟨0, Nat.zero_le _, rfl, [], LOut.nil (Nat.le_refl _), .nil, fun f => ⟨fun h => (by cases h), fun ⟨j, r, h, _⟩ => absurd h (Nat.not_lt_zero _)⟩, Nat.le_refl _, Below.refl _ _⟩
  case round =>
    obtain ⟨k, hk, rfl, l, hO⟩ := hrel
    obtain ⟨wo, hwo⟩ : ∃ wo, wo = wr := ⟨_, rfl⟩
    subst hwo
    have hr := h.below hO.bel
    have c0 := hr.c0
    by_cases hlt : k < R.length
    · have hlt' : (k : Int) < (R.length : Int) := by omega
      have hget : R[k]? = some R[k] := List.getElem?_eq_getElem hlt
      obtain ⟨b4, o4, cap4, hveq, hb4, hco⟩ := hsl.at_ hget
      obtain ⟨rfl, rfl⟩ : ao = some ⟨b4, o4, none⟩ ∧ cap = cap4 := by simpa using hveq
      have hl4 := hco.below' hO.bel hb4
      have hsucc : ∀ f, Sel R client (k + 1) f ↔ Sel R client k f ∨ (fileR R[k] = f ∧ (client < 0 ∨ R[k].c = client)) := fun f => Sel.succ hget f
      have HS := Lib.hid hsucc
      clear hco hveq hget hsucc hsl
      generalize R[k] = r at *
      obtain ⟨ri, rg, rc, rmm⟩ := r
      have q0 : wo.cell? ⟨b4, o4 + k * 4, none⟩ = some (.int .i64 ri) := hl4 0 (by simp [enR])
      have q1 : wo.cell? ⟨b4, o4 + k * 4 + 1, none⟩ = some (.int .i64 rg) := hl4 1 (by simp [enR])
      have q2 : wo.cell? ⟨b4, o4 + k * 4 + 2, none⟩ = some (.int .i64 rc) := hl4 2 (by simp [enR])
      have hF : Lies wo b4 (o4 + k * 4) #[.int .i64 ri, .int .i64 rg] := fun j hj => by
        match j, hj with
        | 0, _ => exact hl4 0 (by simp [enR])
        | 1, _ => exact hl4 1 (by simp [enR])
      clear hl4
      by_cases hsel : client < 0 ∨ rc = client
      · have hs2 : client < 0 ∨ (0 ≤ client ∧ (rc != client) = false) := by
          by_cases h0 : client < 0
          · exact .inl h0
          · exact .inr ⟨by omega, by simpa using (show rc = client by omega)⟩
        have hslo := hO.out.sl elF.len
        obtain ⟨a5, cap5, rfl, hcl5, hcm5, _⟩ := hO.out.sl elF.len
        unfold maxLen at hcm5
        have HOA := Lib.hid hO
        have HSEL := Lib.hid hsel
        have hll : l.length ≤ 1000 := Nat.le_trans hO.len (by omega)
        have hbelr := hO.bel
        have hxo := lt_of_block hr.blk
        have hbo4 : b4 < wo.heap.size := by have := hO.bel.size; omega
        clear hO hsel
        go_upto_region 5 with (fail)
        go_cut [31] (fun s wx => s = .bool false ∧ wx = wo)
        case first =>
          rcases hs2 with hs2 | ⟨hs2, t⟩
          all_goals
            go_wp2
            go_meet
            case rel => exact ⟨rfl, rfl⟩
        case rest =>
          obtain ⟨rfl, hwc⟩ := hcut
          obtain rfl := hwc.symm
          clear hwc hs2
          go_wp2
          go_loopw [7] (fun qv wz => ∃ q : Nat, q ≤ l.length ∧ qv = .int .i64 q ∧ (∀ j a, j < q → l[j]? = some a → ltOf cmpF a (ri, rg) = true) ∧ Below wo.heap.size wo wz) (fun qv _ => l.length - (intOf qv).toNat)
          case atStart => exact ⟨0, Nat.zero_le _, rfl, fun j a hj => absurd hj (Nat.not_lt_zero _), Below.refl _ _⟩
          case round =>
            obtain ⟨q, hq, rfl, hlo, hbz⟩ := hrel
            have HLO := Lib.hid hlo
            clear hlo
            have c0z : wr.cell? ⟨xb, 0, none⟩ = some (.slice (some ⟨b4, o4, none⟩) R.length cap) := (hbz.cell (p := ⟨xb, 0, none⟩) (by show xb < wo.heap.size; exact hxo)).trans c0
            have hFz := hF.below' hbz hbo4
            have z0 : wr.cell? ⟨b4, o4 + k * 4, none⟩ = some (.int .i64 ri) := hFz 0 (by simp)
            have z1 : wr.cell? ⟨b4, o4 + k * 4 + 1, none⟩ = some (.int .i64 rg) := hFz 1 (by simp)
            by_cases hql : q < l.length
            · have hql' : (q : Int) < (l.length : Int) := by omega
              have hgq : l[q]? = some l[q] := List.getElem?_eq_getElem hql
              obtain ⟨b5, o5, cap6, hveq, hb5, hco⟩ := hslo.at_ hgq
              obtain ⟨rfl, rfl⟩ : a5 = some ⟨b5, o5, none⟩ ∧ cap5 = cap6 := by simpa using hveq
              have hA := hco.below' hbz hb5
              have HG := Lib.hid hgq
              clear hco hveq hgq
              generalize l[q] = a at *
              obtain ⟨ai, ag⟩ := a
              have hAz : Lies wr b5 (o5 + q * 2) #[.int .i64 ai, .int .i64 ag] := hA
              have hbz5 : b5 < wr.heap.size := by have := hbz.size; omega
              have hbz4 : b4 < wr.heap.size := by have := hbz.size; omega
              have hbzx : xb < wr.heap.size := by have := hbz.size; omega
              have hbef := before_any wr.drew (ai, ag) (ri, rg)
              have HBF := Lib.hid hbef
              clear hA hbef
              go_upto_region 7 with (fail)
              refine wp_region_g (fun w' => Lies w' b5 (o5 + q * 2) #[.int .i64 ai, .int .i64 ag] ∧ w'.cell? ⟨xb, 0, none⟩ = some (.slice (some ⟨b4, o4, none⟩) R.length cap) ∧ Lies w' b4 (o4 + k * 4) #[.int .i64 ri, .int .i64 rg]) [(0, 1), (1, 1), (2, 1), (3, 1), (4, 1), (5, 1), (6, 1), (7, 1), (8, 0), (9, 1), (10, 1), (11, 1), (12, 0), (13, 1), (14, 1), (15, 1), (16, 0), (17, 2), (18, 1)] (by kernel_rfl) (by kernel_rfl) (by intro d v c a w h; cases d <;> exact h) ?_
              have hS : Lies wr.drew b5 (o5 + q * 2) #[.int .i64 ai, .int .i64 ag] ∧ wr.drew.cell? ⟨xb, 0, none⟩ = some (.slice (some ⟨b4, o4, none⟩) R.length cap) ∧ Lies wr.drew b4 (o4 + k * 4) #[.int .i64 ri, .int .i64 rg] := ⟨hAz, c0z, hFz⟩
              iterate 8 (refine g_take rfl rfl (fun K hK => ?_); go_simp; refine hK _ ?_; clear hK K)
              refine g_read rfl rfl hS (fun w' h => exec_loadA (aggF _ _) rfl h.1) ?_
              iterate 3 (refine g_take rfl rfl (fun K hK => ?_); go_simp; refine hK _ ?_; clear hK K)
              refine g_read rfl rfl hS (fun w' h => exec_load1 ⟨⟨_, Try.underlying39, rfl⟩⟩ rfl h.2.1) ?_
              iterate 3 (refine g_take rfl rfl (fun K hK => ?_); go_simp; refine hK _ ?_; clear hK K)
              refine g_read rfl rfl hS (fun w' h => exec_loadA (aggF _ _) rfl h.2.2) ?_
              refine g_show' rfl rfl (fun K hK => ?_)
              go_simp
              refine HBF.out.mono ?_
              rintro e w6 ⟨rfl, hb6⟩
              have hS6 : Lies w6 b5 (o5 + q * 2) #[.int .i64 ai, .int .i64 ag] ∧ w6.cell? ⟨xb, 0, none⟩ = some (.slice (some ⟨b4, o4, none⟩) R.length cap) ∧ Lies w6 b4 (o4 + k * 4) #[.int .i64 ri, .int .i64 rg] := ⟨hS.1.below' hb6 hbz5, (hb6.cell (p := ⟨xb, 0, none⟩) hbzx).trans hS.2.1, hS.2.2.below' hb6 hbz4⟩
              refine hK _ _ hS6 ?_
              clear hK K
              iterate 1 (refine g_take rfl rfl (fun K hK => ?_); go_simp; refine hK _ ?_; clear hK K)
              refine g_nil ?_
              have hbz6 : Below wo.heap.size wo w6 := hbz.trans (((Below.refl wr.heap.size wr).drew.trans hb6).mono hbz.size)
              clear hS hAz c0z hFz z0 z1 hb6 hbz hbz5 hbz4 hbzx
              by_cases hlt2 : ltOf cmpF (ai, ag) (ri, rg) = true
              · rw [hlt2]
                have HL2 := Lib.hid hlt2
                clear hlt2 hS6
                go_wp2
                go_roundw
                case rel =>
                  refine ⟨q + 1, by omega, by go_num, fun j a hj ha => ?_, hbz6⟩
                  by_cases hjq : j = q
                  · subst hjq
                    rw [HG.out] at ha
                    cases ha
                    exact HL2.out
                  · exact HLO.out j a (by omega) ha
                case measure => simp [intOf]; omega
              · have hlf : ltOf cmpF (ai, ag) (ri, rg) = false := by simpa using hlt2
                rw [hlf]
                clear hlt2
                obtain ⟨hA6, c6, hF6⟩ := hS6
                have y0 : w6.cell? ⟨b5, o5 + q * 2, none⟩ = some (.int .i64 ai) := hA6 0 (by simp)
                have y1 : w6.cell? ⟨b5, o5 + q * 2 + 1, none⟩ = some (.int .i64 ag) := hA6 1 (by simp)
                have x0 : w6.cell? ⟨b4, o4 + k * 4, none⟩ = some (.int .i64 ri) := hF6 0 (by simp)
                have x1 : w6.cell? ⟨b4, o4 + k * 4 + 1, none⟩ = some (.int .i64 rg) := hF6 1 (by simp)
                by_cases heq : ai = ri ∧ ag = rg
                · obtain ⟨rfl, rfl⟩ := heq
                  have hO2 : OfAt w w6 R client (k + 1) (.slice (some ⟨b5, o5, none⟩) l.length cap5) l := by
                    have h6 := HOA.out.keep hbz6
                    refine ⟨h6.out, h6.srt, fun f => ?_, Nat.le_succ_of_le h6.len, h6.bel⟩
                    rw [HS.out, h6.mem]
                    refine ⟨.inl, fun h => h.elim id fun h => ?_⟩
                    rw [← h6.mem, ← h.1]
                    exact List.mem_of_getElem? HG.out
                  have H2 := Lib.hid hO2
                  clear hO2 hlf hA6 hF6
                  go_wp2
                  go_quiet (fail)
                  go_wp2
                  exact ⟨⟨k + 1, by omega, by go_num, l, H2.out.drewN _⟩, by simp [intOf]; omega⟩
                · have he2 : (ai == ri) = false ∨ ((ai == ri) = true ∧ (ag == rg) = false) := by
                    by_cases h1 : ai = ri
                    · exact .inr ⟨by simpa using h1, by simpa using fun h2 => heq ⟨h1, h2⟩⟩
                    · exact .inl (by simpa using h1)
                  have hins := HOA.out.srt.ins hq (f := (ri, rg)) (fun j a hj ha => HLO.out j a hj ha) (fun a ha => by
                    rw [HG.out] at ha
                    cases ha
                    exact ⟨hlf, fun e => heq ⟨(Prod.mk.inj e).1, (Prod.mk.inj e).2⟩⟩)
                  have HINS := Lib.hid hins
                  clear hins hlf heq
                  go_upto_region 9 with (fail)
                  go_cut [71] (fun s wx => s = .bool false ∧ ∃ n, wx = w6.drewN n)
                  case first =>
                    rcases he2 with he2 | ⟨he1, he2⟩
                    all_goals
                      go_wp2
                      go_quiet (fail)
                      go_wp2
                      go_meet
                      case rel => exact ⟨rfl, _, rfl⟩
                  case rest =>
                    obtain ⟨rfl, nq, rfl⟩ := hcut
                    obtain ⟨wy, hwy⟩ : ∃ wy, w6.drewN nq = wy := ⟨_, rfl⟩
                    rw [hwy]
                    have hby : Below wo.heap.size wo wy := by rw [← hwy]; exact below_drewN hbz6 nq
                    have c0y : wy.cell? ⟨xb, 0, none⟩ = some (.slice (some ⟨b4, o4, none⟩) R.length cap) := by rw [← hwy]; exact c6
                    have hFy : Lies wy b4 (o4 + k * 4) #[.int .i64 ri, .int .i64 rg] := by rw [← hwy]; exact hF6
                    clear hwy hbz6 c6 hF6 hA6 y0 y1 x0 x1
                    have hqc : q ≤ cap5 := by omega
                    have hslz := hslo.below hby
                    have hu1 := hslz.take hq
                    have hnil : LOut enF 2 24 wy.heap.size wy (.slice none 0 0) ([] : List Fi) := LOut.nil (Nat.le_refl _)
                    have hz4 : b4 < wy.heap.size := by have := hby.size; omega
                    have hzx : xb < wy.heap.size := by have := hby.size; omega
                    have HSL := Lib.hid hslz
                    have HFZ := Lib.hid hFy
                    have HCZ := Lib.hid c0y
                    clear hslz hFy c0y
                    have hlq : (l.take q).length ≤ 1000 := by rw [List.length_take]; omega
                    obtain ⟨ad, had⟩ : ∃ ad, (if cap5 = q then (some ⟨b5, o5, none⟩ : Option Addr) else (some ⟨b5, o5, none⟩ : Option Addr).map (·.add (q * 2))) = ad := ⟨_, rfl⟩
                    obtain ⟨ln, hln⟩ : ∃ ln, l.length - q = ln := ⟨_, rfl⟩
                    obtain ⟨cn, hcn⟩ : ∃ cn, cap5 - q = cn := ⟨_, rfl⟩
                    have HAD := Lib.hid had
                    have HLN := Lib.hid hln
                    have HCN := Lib.hid hcn
                    clear had hln hcn
                    go_upto_region 12 with (first
                      | ((with_reducible refine wpList_exec rfl (exec_sliceHi Try.underlying43 sizeFile hqc ?_ ?_) ?_); rfl; rfl; go_frame)
                      | ((with_reducible refine wpList_appendM elF hnil hu1 (by simp; omega) ?_ ?_ ?_); rfl; rfl; (intro v6 w6 hO6 hb6 _; rw [List.nil_append] at hO6; obtain ⟨a6, n6, c6, rfl⟩ := LOut.shape hO6); go_frame)
                      | fail)
                    have d0 := (hb6.cell (p := ⟨xb, 0, none⟩) hzx).trans HCZ.out
                    have HF6 := Lib.hid (HFZ.out.below' hb6 hz4)
                    clear hu1 hnil
                    go_upto_region 13 with (first
                      | ((with_reducible refine wpList_loadA (aggF ri rg) HF6.out ?_ ?_); rfl; go_frame)
                      | ((with_reducible refine wpList_append1 elF hO6 (ri, rg) hlq ?_ ?_ ?_ ?_); rfl; rfl; rfl; (intro v7 w7 hO7 hb7; obtain ⟨a7, n7, c7, rfl⟩ := LOut.shape hO7); go_frame)
                      | fail)
                    have hu3 := (HSL.out.below (hb6.trans hb7)).drop2 hq HAD.out HLN.out HCN.out
                    have hlq2 : (l.take q ++ [(ri, rg)]).length + (l.drop q).length ≤ 100000 := by simp; omega
                    have hbf : Below wo.heap.size wo w7 := hby.trans ((hb6.trans hb7).mono hby.size)
                    have hyw : w.heap.size ≤ wy.heap.size := by have := hby.size; have := hbelr.size; omega
                    clear d0 hO6 hb6 hb7
                    go_wp2_with (first
                      | ((with_reducible refine wpList_exec rfl (exec_sliceLo2 Try.underlying43 sizeFile hq HAD.out HLN.out HCN.out ?_ ?_) ?_); rfl; rfl; go_frame)
                      | ((with_reducible refine wpList_appendM elF hO7 hu3 hlq2 ?_ ?_ ?_); rfl; rfl; (intro v8 w8 hO8 hb8 _; obtain ⟨a8, n8, c8, rfl⟩ := LOut.shape hO8); go_frame)
                      | fail)
                    have hsz := hby.size
                    refine ⟨⟨k + 1, by omega, by go_num, l.take q ++ [(ri, rg)] ++ l.drop q, ⟨hO8.mono hyw, HINS.out, fun f => ?_, by have := HOA.out.len; simp; omega, hbelr.trans ((hbf.trans (hb8.mono hsz)).mono hbelr.size)⟩⟩, by simp [intOf]; omega⟩
                    rw [mem_ins, HS.out, HOA.out.mem]
                    exact ⟨fun h => h.elim .inl fun h => .inr ⟨h, HSEL.out⟩, fun h => h.elim .inl fun h => .inr h.1⟩
            · obtain rfl : q = l.length := by omega
              have hins := HOA.out.srt.ins (Nat.le_refl _) (f := (ri, rg)) (fun j a hj ha => HLO.out j a hj ha) (fun a ha => by simp at ha)
              have HINS := Lib.hid hins
              clear hins hql
              go_wp2
              go_quiet (fail)
              obtain ⟨wt, hwt⟩ : ∃ wt, wr.drewN nq = wt := ⟨_, rfl⟩
              rw [hwt]
              have hbt : Below wo.heap.size wo wt := by rw [← hwt]; exact below_drewN hbz nq
              have c0t : wt.cell? ⟨xb, 0, none⟩ = some (.slice (some ⟨b4, o4, none⟩) R.length cap) := by rw [← hwt]; exact c0z
              have hFt : Lies wt b4 (o4 + k * 4) #[.int .i64 ri, .int .i64 rg] := by rw [← hwt]; exact hFz
              clear hwt hbz c0z hFz z0 z1
              go_wp2
              go_quiet (fail)
              obtain ⟨wy, hwy⟩ : ∃ wy, wt.drewN nq = wy := ⟨_, rfl⟩
              rw [hwy]
              have hby : Below wo.heap.size wo wy := by rw [← hwy]; exact below_drewN hbt nq
              have c0y : wy.cell? ⟨xb, 0, none⟩ = some (.slice (some ⟨b4, o4, none⟩) R.length cap) := by rw [← hwy]; exact c0t
              have hFy : Lies wy b4 (o4 + k * 4) #[.int .i64 ri, .int .i64 rg] := by rw [← hwy]; exact hFt
              clear hwy hbt c0t hFt
              have hqc : l.length ≤ cap5 := by omega
              have hslz := hslo.below hby
              have hu1 := hslz.take hq
              have hnil : LOut enF 2 24 wy.heap.size wy (.slice none 0 0) ([] : List Fi) := LOut.nil (Nat.le_refl _)
              have hz4 : b4 < wy.heap.size := by have := hby.size; omega
              have hzx : xb < wy.heap.size := by have := hby.size; omega
              have HSL := Lib.hid hslz
              have HFZ := Lib.hid hFy
              have HCZ := Lib.hid c0y
              clear hslz hFy c0y
              have hlq : (l.take l.length).length ≤ 1000 := by rw [List.length_take]; omega
              obtain ⟨ad, had⟩ : ∃ ad, (if cap5 = l.length then (a5 : Option Addr) else (a5 : Option Addr).map (·.add (l.length * 2))) = ad := ⟨_, rfl⟩
              obtain ⟨ln, hln⟩ : ∃ ln, l.length - l.length = ln := ⟨_, rfl⟩
              obtain ⟨cn, hcn⟩ : ∃ cn, cap5 - l.length = cn := ⟨_, rfl⟩
              have HAD := Lib.hid had
              have HLN := Lib.hid hln
              have HCN := Lib.hid hcn
              clear had hln hcn
              go_upto_region 12 with (first
                | ((with_reducible refine wpList_exec rfl (exec_sliceHi Try.underlying43 sizeFile hqc ?_ ?_) ?_); rfl; rfl; go_frame)
                | ((with_reducible refine wpList_appendM elF hnil hu1 (by simp; omega) ?_ ?_ ?_); rfl; rfl; (intro v6 w6 hO6 hb6 _; rw [List.nil_append] at hO6; obtain ⟨a6, n6, c6, rfl⟩ := LOut.shape hO6); go_frame)
                | fail)
              have d0 := (hb6.cell (p := ⟨xb, 0, none⟩) hzx).trans HCZ.out
              have HF6 := Lib.hid (HFZ.out.below' hb6 hz4)
              clear hu1 hnil
              go_upto_region 13 with (first
                | ((with_reducible refine wpList_loadA (aggF ri rg) HF6.out ?_ ?_); rfl; go_frame)
                | ((with_reducible refine wpList_append1 elF hO6 (ri, rg) hlq ?_ ?_ ?_ ?_); rfl; rfl; rfl; (intro v7 w7 hO7 hb7; obtain ⟨a7, n7, c7, rfl⟩ := LOut.shape hO7); go_frame)
                | fail)
              have hu3 := (HSL.out.below (hb6.trans hb7)).drop2 hq HAD.out HLN.out HCN.out
              have hlq2 : (l.take l.length ++ [(ri, rg)]).length + (l.drop l.length).length ≤ 100000 := by simp; omega
              have hbf : Below wo.heap.size wo w7 := hby.trans ((hb6.trans hb7).mono hby.size)
              have hyw : w.heap.size ≤ wy.heap.size := by have := hby.size; have := hbelr.size; omega
              clear d0 hO6 hb6 hb7
              go_wp2_with (first
                | ((with_reducible refine wpList_exec rfl (exec_sliceLo2 Try.underlying43 sizeFile hq HAD.out HLN.out HCN.out ?_ ?_) ?_); rfl; rfl; go_frame)
                | ((with_reducible refine wpList_appendM elF hO7 hu3 hlq2 ?_ ?_ ?_); rfl; rfl; (intro v8 w8 hO8 hb8 _; obtain ⟨a8, n8, c8, rfl⟩ := LOut.shape hO8); go_frame)
                | fail)
              have hsz := hby.size
              refine ⟨⟨k + 1, by omega, by go_num, l.take l.length ++ [(ri, rg)] ++ l.drop l.length, ⟨hO8.mono hyw, HINS.out, fun f => ?_, by have := HOA.out.len; simp; omega, hbelr.trans ((hbf.trans (hb8.mono hsz)).mono hbelr.size)⟩⟩, by simp [intOf]; omega⟩
              rw [mem_ins, HS.out, HOA.out.mem]
              exact ⟨fun h => h.elim .inl fun h => .inr ⟨h, HSEL.out⟩, fun h => h.elim .inl fun h => .inr h.1⟩
      · have hc0 : (0 : Int) ≤ client := by omega
        have t : (rc != client) = true := by simpa using (show ¬ rc = client by omega)
        have hO2 : OfAt w wo R client (k + 1) u5 l := ⟨hO.out, hO.srt, fun f => by
          rw [HS.out, hO.mem]
          exact ⟨fun h => .inl h, fun h => h.elim id fun h => absurd h.2 hsel⟩, Nat.le_succ_of_le hO.len, hO.bel⟩
        have H2 := Lib.hid hO2
        clear hsel hO2 hF hO hr
        go_wp2
        go_roundw
        case rel => exact ⟨k + 1, by omega, by go_num, l, H2.out⟩
        case measure => simp [intOf]; omega
    · obtain rfl : k = R.length := by omega
      go_wp2
      go_ret
      exact ⟨⟨_, l, rfl, hO.out.rd elF.len, hO.srt, hO.mem⟩, hO.bel⟩
end Go.Proofs.Ytnjiocikpigegaa
