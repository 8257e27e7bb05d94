/- DelegPlays: the stand with the call's box. -/
import Derived.Test.YtnjiocikpigegaaPa
import Derived.Test.YtnjiocikpigegaaOrh
namespace Go.Proofs.Ytnjiocikpigegaa
open Go.RowKit Go.Tn Go.Tn.Mo Go.Maps Go.Sort Go.Shelf

/-- The stand, and the call's box. -/
structure Sta (w0 : World) (b m xb : Nat) (M : Fi → Nat) (A : List Fi) (sv : Value) (R : List RowR) (bx : Nat) (dc dm di dg : Int) (w : World) : Prop where
  st : Pst w0 w b m xb M A sv R
  lt : bx < w.heap.size
  c1 : w.cell? ⟨bx, 1, none⟩ = some (.int .i64 dc)
  c2 : w.cell? ⟨bx, 2, none⟩ = some (.int .i64 dm)
  cf : Lies w bx 3 #[.int .i64 di, .int .i64 dg]
section
variable {w0 w w' : World} {b m xb : Nat} {M : Fi → Nat} {A : List Fi} {sv : Value} {R : List RowR} {bx : Nat} {dc dm di dg : Int}
theorem Sta.keep (h : Sta w0 b m xb M A sv R bx dc dm di dg w) (hb : Below w.heap.size w w') : Sta w0 b m xb M A sv R bx dc dm di dg w' :=
  ⟨h.st.keep hb, Nat.lt_of_lt_of_le h.lt hb.size, (hb.cell (p := ⟨bx, 1, none⟩) h.lt).trans h.c1, (hb.cell (p := ⟨bx, 2, none⟩) h.lt).trans h.c2, h.cf.below' hb h.lt⟩
theorem Sta.drew (h : Sta w0 b m xb M A sv R bx dc dm di dg w) : Sta w0 b m xb M A sv R bx dc dm di dg w.drew := h.keep (Below.refl _ w).drew
theorem Sta.tabV (h : Sta w0 b m xb M A sv R bx dc dm di dg w) : TabV w (.pointer (some ⟨b, 0, none⟩)) M := by
  obtain ⟨L, clk, ht⟩ := h.st.tab
  exact ht.v
theorem Sta.c0 (h : Sta w0 b m xb M A sv R bx dc dm di dg w) : w.cell? ⟨xb, 0, none⟩ = some sv := h.st.rt.c0
theorem Sta.shape (h : Sta w0 b m xb M A sv R bx dc dm di dg w) : ∃ sa sc, sv = .slice sa R.length sc := by
  obtain ⟨sa, sc, hsv, _⟩ := h.st.rt.own.sl elR.len
  exact ⟨sa, sc, hsv⟩
theorem Sta.rmode (h : Sta w0 b m xb M A sv R bx dc dm di dg w) : Calls Try.prog 23 #[.pointer (some ⟨xb, 0, none⟩), .agg #[.int .i64 di, .int .i64 dg], .int .i64 dc] w
    fun e w' => e = .returned (.int .i64 (modeI (M (di, dg)) dc : Nat)) ∧ Below w.heap.size w w' := by
  rw [← h.st.ok.alike (di, dg) dc]
  exact rMode_any w xb xb sv R h.st.rt di dg dc
end
/-- What is asked of a client's files, and of anybody's. -/
theorem Pst.of {w0 w : World} {b m xb : Nat} {M : Fi → Nat} {A : List Fi} {sv : Value} {R : List RowR} (h : Pst w0 w b m xb M A sv R) {FL : List Fi} (hFL : FilesOf M FL) (c : Int) (hc : 0 ≤ c) : Calls Try.prog 18 #[.pointer (some ⟨xb, 0, none⟩), .int .i64 c] w
    fun e w' => (∃ v, e = .returned v ∧ LSl enF 2 w' v (ofL M FL c)) ∧ Below w.heap.size w w' := by
  refine (rOf_any w xb xb sv R h.rt c).mono ?_
  rintro e w' ⟨⟨v, l, rfl, hR, hs, hl⟩, hb⟩
  obtain rfl := srt_uniq hs (ofL_srt hFL c) fun f => (hl f).trans (sel_of h.ok hFL hc f)
  exact ⟨⟨v, rfl, hR.sl⟩, hb⟩
theorem Pst.all {w0 w : World} {b m xb : Nat} {M : Fi → Nat} {A : List Fi} {sv : Value} {R : List RowR} (h : Pst w0 w b m xb M A sv R) {FL : List Fi} (hFL : FilesOf M FL) : Calls Try.prog 18 #[.pointer (some ⟨xb, 0, none⟩), .int .i64 (-1)] w
    fun e w' => (∃ v, e = .returned v ∧ LSl enF 2 w' v FL) ∧ Below w.heap.size w w' := by
  obtain ⟨L, clk, ht⟩ := h.tab
  refine (rOf_any w xb xb sv R h.rt (-1)).mono ?_
  rintro e w' ⟨⟨v, l, rfl, hR, hs, hl⟩, hb⟩
  obtain rfl := srt_uniq hs hFL.1 fun f => (hl f).trans (sel_all h.ok hFL ht.lt f)
  exact ⟨⟨v, rfl, hR.sl⟩, hb⟩
theorem Pst.files {w0 w : World} {b m xb : Nat} {M : Fi → Nat} {A : List Fi} {sv : Value} {R : List RowR} (h : Pst w0 w b m xb M A sv R) (hA : A.length ≤ 1000) {FL : List Fi} (hFL : FilesOf M FL) : Calls Try.prog 26 #[.pointer (some ⟨b, 0, none⟩)] w
    fun e w' => (∃ v, e = .returned v ∧ LSl enF 2 w' v FL) ∧ Below w.heap.size w w' := by
  refine (files_any w _ M (h.tabL hA)).mono ?_
  rintro e w' ⟨v, FL', rfl, hFL', _, hR, hb⟩
  obtain rfl := srt_uniq hFL'.1 hFL.1 fun f => (hFL'.2 f).trans (hFL.2 f).symm
  exact ⟨⟨v, rfl, hR.sl⟩, hb⟩
theorem Pst.pof {w0 w : World} {b m xb : Nat} {M : Fi → Nat} {A : List Fi} {sv : Value} {R : List RowR} (h : Pst w0 w b m xb M A sv R) (hA : A.length ≤ 1000) {FL : List Fi} (hFL : FilesOf M FL) (c : Int) : Calls Try.prog 27 #[.pointer (some ⟨b, 0, none⟩), .int .i64 c] w
    fun e w' => (∃ v, e = .returned v ∧ LSl enF 2 w' v (ofL M FL c)) ∧ Below w.heap.size w w' := by
  refine (of_files w _ M (h.tabL hA) FL hFL c).mono ?_
  rintro e w' ⟨⟨v, rfl, hR⟩, _, hb⟩
  exact ⟨⟨v, rfl, hR.sl elF.len⟩, hb⟩
theorem Pst.plen {w0 w : World} {b m xb : Nat} {M : Fi → Nat} {A : List Fi} {sv : Value} {R : List RowR} (h : Pst w0 w b m xb M A sv R) (hA : A.length ≤ 1000) : Calls Try.prog 22 #[.pointer (some ⟨b, 0, none⟩)] w
    fun e w' => e = .returned (.int .i64 (R.length : Nat)) ∧ Below w.heap.size w w' := by
  obtain ⟨FL, hFL, hcnt, _⟩ := h.asks
  rw [← hcnt]
  exact len_any w _ M (h.tabL hA) FL hFL

/-- A client's rows, whatever the files. -/
theorem sel_iff {M : Fi → Nat} {R : List RowR} (h : RowsOk M R) {c : Int} (hc : 0 ≤ c) (f : Fi) : Sel R c R.length f ↔ modeI (M f) c ≠ 0 := by
  constructor
  · rintro ⟨j, r, _, hj, hf, hs⟩
    obtain ⟨x, hx, hcx, _, hz⟩ := h.row r (List.mem_of_getElem? hj)
    have hcc : c = (x : Int) := by omega
    rw [hcc, modeI_nat _ hx, ← hf]
    exact hz
  · intro hz
    obtain ⟨x, rfl, hx, hm⟩ := modeI_ne hz
    obtain ⟨r, hr, h1, h2⟩ := h.all f x hx hm
    obtain ⟨j, hj⟩ := List.getElem?_of_mem hr
    exact ⟨j, r, (List.getElem?_eq_some_iff.1 hj).1, hj, h1, .inr h2⟩
/-- The rows' modes while a client's files are dropped one by one. -/
def dropK (M : Fi → Nat) (DL : List Fi) (c : Int) (k : Nat) : Fi → Nat := fun f => if f ∈ DL.take k then wi (M f) c.toNat 0 else M f
theorem modeI_wi (m : Nat) (c : Int) : modeI (wi m c.toNat 0) c = 0 := by
  unfold modeI
  split
  · rename_i h
    rw [mo_wi m (by omega) (by omega) (by decide), if_pos rfl]
  · rfl
theorem drop_mem {α : Type} [DecidableEq α] {l : List α} (hn : l.Nodup) (k : Nat) (x : α) : x ∈ l.drop k ↔ x ∈ l ∧ x ∉ l.take k := by
  have hsp := List.take_append_drop k l
  have hn' : (l.take k ++ l.drop k).Nodup := by rw [hsp]; exact hn
  have hd := List.nodup_append.1 hn'
  constructor
  · intro h
    exact ⟨by rw [← hsp]; exact List.mem_append_right _ h, fun ht => hd.2.2 x ht x h rfl⟩
  · rintro ⟨h1, h2⟩
    rw [← hsp] at h1
    rcases List.mem_append.1 h1 with h | h
    · exact absurd h h2
    · exact h
theorem rof_drop {M : Fi → Nat} {FL : List Fi} (hFL : FilesOf M FL) {c : Int} (hc : 0 ≤ c) {k : Nat} {R : List RowR} (h : RowsOk (dropK M (ofL M FL c) c k) R) {l : List Fi} (hs : Srt l) (hl : ∀ f, f ∈ l ↔ Sel R c R.length f) : l = (ofL M FL c).drop k := by
  have hsd : Srt (ofL M FL c) := ofL_srt hFL c
  have hnd : (ofL M FL c).Nodup := (filesOf_nodup hFL).filter _
  refine srt_uniq hs (hsd.sublist (List.drop_sublist _ _)) fun f => ?_
  rw [hl f, sel_iff h hc, drop_mem hnd]
  unfold dropK
  have hin : f ∈ ofL M FL c ↔ modeI (M f) c ≠ 0 := by
    unfold ofL
    rw [List.mem_filter, decide_eq_true_iff, hFL.2 f]
    exact ⟨fun hh => hh.2, fun hh => ⟨fun h0 => hh (by rw [h0]; exact modeI_zero _), hh⟩⟩
  by_cases ht : f ∈ (ofL M FL c).take k
  · rw [if_pos ht, modeI_wi]
    exact ⟨fun hh => absurd rfl hh, fun hh => absurd ht hh.2⟩
  · rw [if_neg ht, hin]
    exact ⟨fun hh => ⟨hh, ht⟩, fun hh => hh.1⟩
theorem dropK_zero (M : Fi → Nat) (DL : List Fi) (c : Int) : dropK M DL c 0 = M := by
  funext f
  simp [dropK]
theorem dropK_all {M : Fi → Nat} {FL : List Fi} (hFL : FilesOf M FL) (c : Int) : dropK M (ofL M FL c) c (ofL M FL c).length = dropCM M c := by
  funext f
  unfold dropK dropCM
  have hin : f ∈ ofL M FL c ↔ modeI (M f) c ≠ 0 := by
    unfold ofL
    rw [List.mem_filter, decide_eq_true_iff, hFL.2 f]
    exact ⟨fun hh => hh.2, fun hh => ⟨fun h0 => hh (by rw [h0]; exact modeI_zero _), hh⟩⟩
  rw [List.take_of_length_le (Nat.le_refl _)]
  by_cases hf : modeI (M f) c = 0
  · rw [if_pos hf, if_neg (fun hh => (hin.1 hh) hf)]
  · rw [if_neg hf, if_pos (hin.2 hf)]
theorem dropK_step {M : Fi → Nat} {FL : List Fi} (hFL : FilesOf M FL) (c : Int) {k : Nat} (hk : k < (ofL M FL c).length) : dropM (dropK M (ofL M FL c) c k) (ofL M FL c)[k] c = dropK M (ofL M FL c) c (k + 1) := by
  have hnd : (ofL M FL c).Nodup := (filesOf_nodup hFL).filter _
  have hmem := List.getElem_mem hk
  have hin : modeI (M (ofL M FL c)[k]) c ≠ 0 := by
    unfold ofL at hmem ⊢
    have := (List.mem_filter.1 hmem).2
    simpa using this
  refine dropM_step M (ofL M FL c) k c _ (fun hm => ?_) hin fun f => ?_
  · obtain ⟨j, hj, hje⟩ := List.getElem_of_mem hm
    rw [List.length_take] at hj
    rw [List.getElem_take] at hje
    have := (List.getElem_inj hnd).1 hje
    omega
  · rw [List.take_succ_eq_append_getElem hk, List.mem_append, List.mem_singleton]
/-- The rows' modes while all clients' rows of a file are dropped one by one. -/
def dropH (M : Fi → Nat) (f : Fi) (l : List Nat) : Fi → Nat := setM M f (dropAll (M f) l)
theorem dropH_nil (M : Fi → Nat) (f : Fi) : dropH M f [] = M := by
  funext x
  unfold dropH setM dropAll
  split
  · rename_i h; rw [h]
  · rfl
theorem dropH_step {M : Fi → Nat} {f : Fi} {l : List Nat} {c : Nat} (hc : c < 8) (hl : ∀ x ∈ l, x < 8) (hm : mo (M f) c ≠ 0) (hn : c ∉ l) : dropM (dropH M f l) f (c : Int) = dropH M f (l ++ [c]) := by
  have h1 : dropH M f l f = dropAll (M f) l := by unfold dropH setM; rw [if_pos rfl]
  unfold dropM
  rw [h1, modeI_nat _ hc, mo_dropAll l _ hl c hc, if_neg hn, if_neg hm, Int.toNat_natCast]
  funext x
  unfold dropH
  rw [dropAll_snoc]
  unfold setM
  split <;> rfl
theorem dropH_ok {M : Fi → Nat} {f : Fi} {R : List RowR} (h : RowsOk (dropH M f (holdL (M f) 8)) R) : RowsOk (setM M f 0) R := by
  refine h.congr fun f' x hx => ?_
  unfold dropH setM
  split
  · rw [mo_dropAll _ _ (fun c hc => (holdL_mem.1 hc).1) x hx]
    have h0 : mo 0 x = 0 := by simp [mo]
    rw [h0]
    by_cases hh : x ∈ holdL (M f) 8
    · rw [if_pos hh]
    · rw [if_neg hh]
      refine (Decidable.byContradiction fun hz => hh (holdL_mem.2 ⟨hx, hz⟩)).symm
  · rfl
theorem drop_call {w0 w : World} {b m xb : Nat} {M : Fi → Nat} {A : List Fi} {sv : Value} {R : List RowR} (h : Pst w0 w b m xb M A sv R) (hA : A.length ≤ 1000) {FL : List Fi} (hFL : FilesOf M FL) (c : Int) : Calls Try.prog 16 #[.pointer (some ⟨b, 0, none⟩), .int .i64 c] w
    fun e w' => (∃ v, e = .returned v ∧ LRd enF 2 w.heap.size w' v (ofL M FL c)) ∧ (∃ L' clk', TabAt w' b m L' clk' (dropCM M c)) ∧ Mod (fun x => x = m) w w' := by
  obtain ⟨L, clk, ht⟩ := h.tab
  exact dropClient_any w b m clk L M ht (Nat.le_trans (tab_len ht A h.am) hA) FL hFL c
theorem ofL_neg (M : Fi → Nat) (FL : List Fi) {c : Int} (h : c < 0) : ofL M FL c = [] := by
  unfold ofL
  rw [List.filter_eq_nil_iff]
  intro f _
  rw [modeI_out _ (.inl h)]
  simp
theorem dropCM_neg (M : Fi → Nat) {c : Int} (h : c < 0) : dropCM M c = M := by
  funext f
  unfold dropCM
  rw [if_pos (modeI_out _ (.inl h))]
/-- One change of the document's table behind others. -/
theorem Turned.trans {w w' w'' : World} {B xb n n' : Nat} {sv sv' : Value} {M' : Fi → Nat} (hown : ∀ r, sv'.ownBlock = some r → sv.ownBlock = some r ∨ w.heap.size ≤ r) (hm : Mod (fun x => x = xb ∨ sv.ownBlock = some x) w w') (h2 : Turned w' w'' B xb sv' M' n') (hn : n' ≤ n) : Turned w w'' B xb sv M' n := by
  obtain ⟨⟨s2, R2, k1, k2, k3, k4⟩, k5⟩ := h2
  refine ⟨⟨s2, R2, k1, k2, Nat.le_trans k3 hn, fun r hr => ?_⟩, hm.trans k5 (fun _ h => h) fun x hx hh => ?_⟩
  · rcases k4 r hr with h | h
    · exact hown r h
    · exact .inr (Nat.le_trans hm.size h)
  · rcases hh with h | h
    · exact .inl h
    · rcases hown x h with h | h
      · exact .inr h
      · omega
end Go.Proofs.Ytnjiocikpigegaa
