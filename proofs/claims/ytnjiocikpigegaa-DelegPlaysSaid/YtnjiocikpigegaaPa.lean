/- DelegPlays: where its loop stands; what a call of each side leaves. (The law's walk is to come.) -/
import Derived.Test.YtnjiocikpigegaaRj
namespace Go.Proofs.Ytnjiocikpigegaa
open Go.RowKit Go.Tn Go.Tn.Mo Go.Maps Go.Sort Go.Shelf

/-- Where the loop stands: both tables in memory, and alike. -/
structure Pst (w0 w : World) (b m xb : Nat) (M : Fi → Nat) (A : List Fi) (sv : Value) (R : List RowR) : Prop where
  tab : ∃ L clk, TabAt w b m L clk M
  am : Among M A
  rt : RTab w xb xb sv R
  ok : RowsOk M R
  len : R.length ≤ A.length
  bel : Below w0.heap.size w0 w
theorem Pst.keep {w0 w w' : World} {b m xb : Nat} {M : Fi → Nat} {A : List Fi} {sv : Value} {R : List RowR} (h : Pst w0 w b m xb M A sv R) (hb : Below w.heap.size w w') : Pst w0 w' b m xb M A sv R := by
  obtain ⟨L, clk, ht⟩ := h.tab
  exact ⟨⟨L, clk, ht.below hb ht.b_lt ht.m_lt⟩, h.am, h.rt.below hb, h.ok, h.len, h.bel.trans (hb.mono h.bel.size)⟩
theorem Pst.more {w0 w : World} {b m xb : Nat} {M : Fi → Nat} {A : List Fi} {sv : Value} {R : List RowR} (h : Pst w0 w b m xb M A sv R) (x : Fi) : Pst w0 w b m xb M (A ++ [x]) sv R :=
  ⟨h.tab, h.am.less x fun _ h => h, h.rt, h.ok, by rw [List.length_append]; exact Nat.le_trans h.len (Nat.le_add_right _ _), h.bel⟩
theorem Pst.drew {w0 w : World} {b m xb : Nat} {M : Fi → Nat} {A : List Fi} {sv : Value} {R : List RowR} (h : Pst w0 w b m xb M A sv R) : Pst w0 w.drew b m xb M A sv R := h.keep (Below.refl _ w).drew
theorem Pst.tabL {w0 w : World} {b m xb : Nat} {M : Fi → Nat} {A : List Fi} {sv : Value} {R : List RowR} (h : Pst w0 w b m xb M A sv R) (hA : A.length ≤ 1000) : TabL w (.pointer (some ⟨b, 0, none⟩)) M := by
  obtain ⟨L, clk, ht⟩ := h.tab
  exact .inr ⟨b, m, L, clk, rfl, ht, Nat.le_trans (tab_len ht A h.am) hA⟩
/-- The document's table, behind a call of the program's. -/
theorem Pst.rows {w0 w w' : World} {b m xb : Nat} {M : Fi → Nat} {A : List Fi} {sv : Value} {R : List RowR} (h : Pst w0 w b m xb M A sv R) (hmx : m < xb) (hm : Mod (fun x => x = m) w w') : RTab w' xb xb sv R :=
  h.rt.mod hm (by omega) fun r hr e => by
    have := h.rt.own.lo r hr
    omega
/-- Behind a call of each side that change the same. -/
theorem Pst.turn {w0 w w4 w5 : World} {b m xb : Nat} {M M' : Fi → Nat} {A : List Fi} {sv : Value} {R : List RowR} (h : Pst w0 w b m xb M A sv R) (h0 : w0.heap.size ≤ m) (h0x : w0.heap.size ≤ xb) (hbx : b < xb) (hmx : m < xb) (ht : ∃ L clk, TabAt w4 b m L clk M') (hm : Mod (fun x => x = m) w w4) {n : Nat} (hr : Turned w4 w5 xb xb sv M' n) (x : Fi) (hn : n ≤ A.length + 1) (ha : Among M' (A ++ [x])) :
    ∃ sv' R', Pst w0 w5 b m xb M' (A ++ [x]) sv' R' := by
  obtain ⟨L, clk, ht⟩ := ht
  obtain ⟨⟨sv', R', k1, k2, k3, _⟩, k5⟩ := hr
  have hlo : ∀ r, sv.ownBlock = some r → xb ≤ r := h.rt.own.lo
  refine ⟨sv', R', ⟨L, clk, ht.mod k5 (fun e => ?_) (fun e => ?_)⟩, ha, k1, k2, by rw [List.length_append, List.length_singleton]; omega, (h.bel.trans (hm.below h.bel.size (fun y hy e => by omega))).trans (k5.below (Nat.le_trans h.bel.size hm.size) (fun y hy e => ?_))⟩
  · rcases e with e | e
    · omega
    · have := hlo b e
      omega
  · rcases e with e | e
    · omega
    · have := hlo m e
      omega
  · rcases e with e | e
    · omega
    · have := hlo y e
      omega
/-- What is asked behind each call is answered alike. -/
theorem Pst.asks {w0 w : World} {b m xb : Nat} {M : Fi → Nat} {A : List Fi} {sv : Value} {R : List RowR} (h : Pst w0 w b m xb M A sv R) : ∃ FL, FilesOf M FL ∧ lenN M FL 8 = R.length ∧ (∀ f c, rm R f c = (modeI (M f) c : Nat)) ∧ (∀ (c : Int) l, 0 ≤ c → Srt l → (∀ f, f ∈ l ↔ Sel R c R.length f) → l = ofL M FL c) ∧ (∀ l, Srt l → (∀ f, f ∈ l ↔ Sel R (-1) R.length f) → l = FL) := by
  obtain ⟨L, clk, ht⟩ := h.tab
  have hFL : FilesOf M (sortF (L.map (·.1))) := sortF_files ht (List.Perm.refl _)
  exact ⟨_, hFL, h.ok.count hFL, h.ok.alike, fun c l hc hs hl => srt_uniq hs (ofL_srt hFL c) fun f => (hl f).trans (sel_of h.ok hFL hc f), fun l hs hl => srt_uniq hs hFL.1 fun f => (hl f).trans (sel_all h.ok hFL ht.lt f)⟩
end Go.Proofs.Ytnjiocikpigegaa
