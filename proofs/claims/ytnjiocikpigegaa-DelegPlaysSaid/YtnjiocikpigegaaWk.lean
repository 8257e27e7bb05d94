/- DropClient walked. -/
import Derived.Test.YtnjiocikpigegaaWj
namespace Go.Proofs.Ytnjiocikpigegaa
open Go.RowKit Go.Tn Go.Tn.Mo Go.Maps Go.Sort Go.Shelf

/-- Drop, whatever the client. -/
def dropE (m : Nat) (client : Int) : Int := if modeI m client = 0 then 11 else 0
def dropM (M : Fi → Nat) (f : Fi) (client : Int) : Fi → Nat := if modeI (M f) client = 0 then M else setM M f (wi (M f) client.toNat 0)
theorem drop_any (w : World) (b m clk : Nat) (L : Ents Fi) (M : Fi → Nat) (h : TabAt w b m L clk M) (i g client : Int) : Calls Try.prog 11 #[.pointer (some ⟨b, 0, none⟩), .agg #[.int .i64 i, .int .i64 g], .int .i64 client] w
    fun e w' => e = .returned (.int .i64 (dropE (M (i, g)) client)) ∧ (∃ L' clk', TabAt w' b m L' clk' (dropM M (i, g) client)) ∧ Mod (fun x => x = m) w w' := by
  have hsame : ∀ w', Below w.heap.size w w' → (∃ L' clk', TabAt w' b m L' clk' M) ∧ Mod (fun x => x = m) w w' := fun w' hb =>
    ⟨⟨L, clk, h.below hb h.b_lt h.m_lt⟩, (Mod.of_below hb).mono fun x hx hh => absurd hx (Nat.not_lt.2 hh)⟩
  by_cases hc : client < 0 ∨ 8 ≤ client
  · have hz := modeI_out (M (i, g)) hc
    unfold dropE dropM
    rw [if_pos hz, if_pos hz]
    refine (drop_out w b m clk L M h i g client hc).mono ?_
    rintro e w' ⟨he, hb⟩
    exact ⟨he, hsame w' hb⟩
  · obtain ⟨c, rfl⟩ : ∃ c : Nat, client = (c : Int) := ⟨client.toNat, by omega⟩
    have hc8 : c < 8 := by omega
    unfold dropE dropM
    rw [modeI_nat _ hc8, Int.toNat_natCast]
    by_cases hz : mo (M (i, g)) c = 0
    · rw [if_pos hz, if_pos hz]
      refine (drop_none w b m clk L M h i g c hc8 hz).mono ?_
      rintro e w' ⟨he, hb⟩
      exact ⟨he, hsame w' hb⟩
    · rw [if_neg hz, if_neg hz]
      exact drop_ok w b m clk L M h i g c hc8 hz

def dropCM (M : Fi → Nat) (client : Int) : Fi → Nat := fun f => if modeI (M f) client = 0 then M f else wi (M f) client.toNat 0

theorem filesOf_nodup {M : Fi → Nat} {l : List Fi} (h : FilesOf M l) : l.Nodup := h.1.imp fun {a b} hab e => by
  subst e
  rw [swoF.irrefl] at hab
  cases hab

theorem dropM_step (M : Fi → Nat) (DL : List Fi) (k : Nat) (client : Int) (x : Fi) (hnot : x ∉ DL.take k) (hmo : modeI (M x) client ≠ 0) (hs : ∀ f, f ∈ DL.take (k + 1) ↔ f ∈ DL.take k ∨ f = x) :
    dropM (fun f : Fi => if f ∈ DL.take k then wi (M f) client.toNat 0 else M f) x client = fun f => if f ∈ DL.take (k + 1) then wi (M f) client.toNat 0 else M f := by
  have h1 : (if x ∈ DL.take k then wi (M x) client.toNat 0 else M x) = M x := if_neg hnot
  unfold dropM
  simp only [h1]
  rw [if_neg hmo]
  funext f
  unfold setM
  by_cases hf : f = x
  · subst hf
    rw [if_pos rfl, if_pos ((hs _).2 (.inr rfl))]
  · rw [if_neg hf]
    show (if f ∈ DL.take k then wi (M f) client.toNat 0 else M f) = _
    by_cases hf2 : f ∈ DL.take k
    · rw [if_pos hf2, if_pos ((hs _).2 (.inl hf2))]
    · rw [if_neg hf2, if_neg (fun hh => by rcases (hs _).1 hh with hh | hh; exact hf2 hh; exact hf hh)]

set_option maxHeartbeats 2000000 in
theorem dropClient_any (w : World) (b m clk : Nat) (L : Ents Fi) (M : Fi → Nat) (h : TabAt w b m L clk M) (hl : L.length ≤ 1000) (FL : List Fi) (hFL : FilesOf M FL) (client : Int) : Calls Try.prog 16 #[.pointer (some ⟨b, 0, none⟩), .int .i64 client] w
    fun e w' => (∃ v, e = .returned v ∧ LRd enF 2 w.heap.size w' v (ofL M FL client)) ∧ (∃ L' clk', TabAt w' b m L' clk' (dropCM M client)) ∧ Mod (fun x => x = m) w w' := by
  have hof := of_files w _ M (.inr ⟨b, m, L, clk, rfl, h, hl⟩) FL hFL client
  have hbw := h.b_lt
  have hmw := h.m_lt
  go_enter Try.func16, Try.ntmps16
  go_wp2_with fail
  refine hof.mono ?_
  rintro e w2 ⟨⟨v, rfl, hO⟩, _, hb2⟩
  have h2 := h.below hb2 h.b_lt h.m_lt
  have hR := hO.rd elF.len
  obtain ⟨ao, cap, rfl, hcl, hcm, hx⟩ := hR.sl
  unfold maxLen at hcm
  have hlen : (ofL M FL client).length ≤ FL.length := ofL_len M FL client
  have hnd : (ofL M FL client).Nodup := (filesOf_nodup hFL).filter _
  have hin : ∀ f, f ∈ ofL M FL client ↔ modeI (M f) client ≠ 0 := fun f => by
    unfold ofL
    rw [List.mem_filter, decide_eq_true_iff, hFL.2 f]
    refine ⟨fun hh => hh.2, fun hh => ⟨fun h0 => hh (by rw [h0]; exact modeI_zero _), hh⟩⟩
  have HR := Lib.hid hR
  have HN := Lib.hid hnd
  have HI := Lib.hid hin
  clear hof hO hR hFL hnd hin
  obtain ⟨DL, hDL⟩ : ∃ DL, ofL M FL client = DL := ⟨_, rfl⟩
  rw [hDL] at HR HN HI hcl hx hlen
  have HDL := Lib.hid hDL
  rw [hDL]
  clear hDL
  go_wp2
  go_loopw [13] (fun kv wr => ∃ k : Nat, k ≤ DL.length ∧ kv = .int .i64 k ∧ (∃ L' clk', TabAt wr b m L' clk' (fun f => if f ∈ DL.take k then wi (M f) client.toNat 0 else M f)) ∧ Mod (fun x => x = m) w2 wr) (fun kv _ => DL.length - (intOf kv).toNat)
  case atStart =>
    refine ⟨0, Nat.zero_le _, rfl, ⟨L, clk, ?_⟩, Mod.refl _ _⟩
    simpa using h2
  case round =>
    obtain ⟨k, hk, rfl, ⟨Lk, ck, hTk⟩, hmk⟩ := hrel
    by_cases hlt : k < DL.length
    · have hlt' : (k : Int) < (DL.length : Int) := by omega
      obtain ⟨bb, off, rfl, hbb, hcs⟩ := hx (by omega)
      have hbm : bb ≠ m := by
        have := HR.out.lo bb rfl
        omega
      have hcell : Lies wr bb (off + k * 2) (enF DL[k]).toArray := fun j hj => by
        have h0 := hcs k _ (List.getElem?_eq_getElem hlt) j hj
        have hb := hmk.block bb hbb hbm
        simp only [World.cell?] at h0 ⊢
        rw [hb]
        exact h0
      have hnotin : DL[k] ∉ DL.take k := fun hm => by
        obtain ⟨j, hj, hje⟩ := List.getElem_of_mem hm
        rw [List.length_take] at hj
        rw [List.getElem_take] at hje
        have := (List.getElem_inj HN.out).1 hje
        omega
      have hmo := (HI.out DL[k]).1 (List.getElem_mem hlt)
      have hsucc : ∀ f, f ∈ DL.take (k + 1) ↔ f ∈ DL.take k ∨ f = DL[k] := fun f => by
        rw [List.take_succ_eq_append_getElem hlt, List.mem_append, List.mem_singleton]
      have HS := Lib.hid hsucc
      clear hcs hx hsucc
      generalize DL[k] = f at *
      obtain ⟨i, g⟩ := f
      have hal : Mod (fun x => x = m) wr (wr.alloc (.cells #[.int .i64 i, .int .i64 g] 24)) := (Mod.refl _ _).alloc _
      have hT1 : TabAt (wr.alloc (.cells #[.int .i64 i, .int .i64 g] 24)) b m Lk ck _ := hTk.below ((Below.refl _ _).alloc (Nat.le_refl _) _ : Below wr.heap.size wr _) hTk.b_lt hTk.m_lt
      have hdrop := drop_any _ b m ck Lk _ hT1 i g client
      have hMk := dropM_step M DL k client (i, g) hnotin hmo HS.out
      have q0 : wr.cell? ⟨bb, off + k * 2, none⟩ = some (.int .i64 i) := hcell 0 (by simp [enF])
      have q1 : wr.cell? ⟨bb, off + k * 2 + 1, none⟩ = some (.int .i64 g) := hcell 1 (by simp [enF])
      have HD := Lib.hid hdrop
      have HC := Lib.hid hcell
      have HM := Lib.hid hMk
      clear hdrop hcell hMk hT1
      go_wp2_with (first
        | ((with_reducible refine wpList_loadA (aggF i g) HC.out ?_ ?_); rfl; go_frame)
        | fail)
      refine HD.out.mono ?_
      rintro e w3 ⟨rfl, ⟨L3, c3, hT3⟩, hm3⟩
      rw [HM.out] at hT3
      have hmk3 : Mod (fun x => x = m) w2 w3 := (hmk.trans hal (fun _ h => h) (fun _ _ h => h)).trans hm3 (fun _ h => h) (fun _ _ h => h)
      clear hmk hm3 hal hTk q0 q1
      go_wp2
      go_roundw
      case rel => exact ⟨k + 1, by omega, by go_num, ⟨L3, c3, hT3⟩, hmk3⟩
      case measure => simp [intOf]; omega
    · obtain rfl : k = DL.length := by omega
      have hMe : (fun f : Fi => if f ∈ DL.take DL.length then wi (M f) client.toNat 0 else M f) = dropCM M client := by
        funext f
        unfold dropCM
        rw [List.take_of_length_le (Nat.le_refl _)]
        by_cases hf : modeI (M f) client = 0
        · rw [if_pos hf, if_neg (fun hh => (HI.out f).1 hh hf)]
        · rw [if_neg hf, if_pos ((HI.out f).2 hf)]
      rw [hMe] at hTk
      clear hMe
      go_wp2
      go_ret
      have hR := HR.out
      refine ⟨⟨_, rfl, by rw [HDL.out]; exact hR.kept hmk.size fun r hr => hmk.block r (hR.lt r hr) (fun e => by have := hR.lo r hr; omega)⟩, ⟨Lk, ck, hTk⟩, ((Mod.of_below hb2).mono fun x hx hh => absurd hx (Nat.not_lt.2 hh)).trans hmk (fun _ h => h) (fun _ _ h => h)⟩
end Go.Proofs.Ytnjiocikpigegaa
