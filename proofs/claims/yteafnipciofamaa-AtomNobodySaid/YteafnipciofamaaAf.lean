/- Trees: a creation is done; a block is written; how many there are. -/
import Derived.Test.YteafnipciofamaaAe
namespace Go.Proofs.Yteafnipciofamaa
open Go.RowKit Go.Tn Go.Tn.Names

theorem aggR (i g : Int) : AggT Try.prog 39 (#[.int .i64 0, .int .i64 i, .int .i64 g, .int .i64 0, .string ⟨#[]⟩, .slice none 0 0] : Array Value).size := ⟨⟨_, Try.underlying39, rfl⟩, by kernel_rfl⟩
/-- Behind the making. -/
def Made (w w' : World) (t mn mm r mr : Nat) (cs : Array Value) (L : Ents Fi) (c : Nat) (M : Ents Int) (d : Nat) (nm : ByteArray) (ce : Nat) : Prop :=
  ∃ r' mr', Tr w' t mn mm (upd (2, 1) (.pointer (some ⟨r', 0, none⟩)) L c) (updClk (2, 1) L c) (upd 2 (.int .i64 1) M d) (updClk 2 M d) ∧ Nd w' r mr cs (upd nm (.agg #[.string nm, .int .i64 2, .int .i64 1, .int .i64 2]) [] ce) (updClk nm [] ce) ∧ Nd w' r' mr' (freshCs 2 mr') [] 0 ∧ w.heap.size ≤ mr' ∧ w.heap.size ≤ r' ∧ Mod (fun x => x = mn ∨ x = mm ∨ x = mr) w w'
theorem Made.back {w w1 w' : World} {t mn mm r mr : Nat} {cs : Array Value} {L : Ents Fi} {c : Nat} {M : Ents Int} {d : Nat} {nm : ByteArray} {ce : Nat} (hb : Below w.heap.size w w1) (h : Made w1 w' t mn mm r mr cs L c M d nm ce) : Made w w' t mn mm r mr cs L c M d nm ce := by
  obtain ⟨r', mr', h1, h2, h3, h4, h5, h6⟩ := h
  have hs := hb.size
  refine ⟨r', mr', h1, h2, h3, by omega, by omega, ?_⟩
  exact ((Mod.of_below hb).mono (T := fun _ => False) fun x hx h => absurd h (Nat.not_le.2 hx)).trans h6 (fun x h => h.elim) fun x _ h => h
section
variable {w : World} {t mn mm : Nat} {L : Ents Fi} {c : Nat} {M : Ents Int} {d : Nat} {r mr ce : Nat} {cs : Array Value}
set_option maxRecDepth 20000 in
theorem done_ok (h : Tr w t mn mm L c M d) (hn : Nd w r mr cs [] ce) (hwL : WF L c) (hwM : WF M d)
    (fi fg di dg at_ : Int) (nm ot da : ByteArray) (hg : Go.Tn.get (di, dg) L = some (.pointer (some ⟨r, 0, none⟩)))
    (hm : Go.Tn.getD 2 M (.int .i64 0) = .int .i64 0) (hl : Go.Tn.get (2, 0) L = none) (hne : mn ≠ mm ∧ mn ≠ mr ∧ mm ≠ mr ∧ t ≠ mn ∧ t ≠ mm ∧ t ≠ mr ∧ r ≠ mn ∧ r ≠ mm ∧ r ≠ mr) :
    Calls Try.prog 20 #[.pointer (some ⟨t, 0, none⟩), .agg #[.int .i64 2, .int .i64 fi, .int .i64 fg, .int .i64 di, .int .i64 dg, .string nm, .string ot, .int .i64 at_, .string da], .agg #[.int .i64 0, .int .i64 2, .int .i64 1, .int .i64 0, .string ⟨#[]⟩, .slice none 0 0]] w
    fun e w' => e = .returned (.bool true) ∧ Made w w' t mn mm r mr cs L c M d nm ce := by
  have hb : Below w.heap.size w ((w.alloc (.cells #[.int .i64 2, .int .i64 fi, .int .i64 fg, .int .i64 di, .int .i64 dg, .string nm, .string ot, .int .i64 at_, .string da] 25)).alloc (.cells #[.int .i64 0, .int .i64 2, .int .i64 1, .int .i64 0, .string ⟨#[]⟩, .slice none 0 0] 39)) := ((Below.refl _ _).alloc (Nat.le_refl _) _).alloc (by simp) _
  have hM := make_ok (h.below hb) (hn.below hb) hwL hwM fi fg di dg at_ nm ot da hg hm hl hne
  clear h hn hg hm hl hne
  go_enter Try.func20, Try.ntmps20
  go_wp2_with fail
  refine hM.mono ?_
  rintro e w2 ⟨rfl, hmd⟩
  have HM := Lib.hid hmd
  clear hmd
  go_wp2
  go_ret
  exact ⟨rfl, Made.back hb HM.out⟩
set_option maxRecDepth 20000 in
theorem Do_ok (h : Tr w t mn mm L c M d) (hn : Nd w r mr cs [] ce) (h0 : cs[0]? = some (.int .i64 1)) (hwL : WF L c) (hwM : WF M d)
    (fi fg di dg at_ : Int) (nm ot da : ByteArray) (hnm : isName (bs nm) = true) (hg : Go.Tn.get (di, dg) L = some (.pointer (some ⟨r, 0, none⟩)))
    (hm : Go.Tn.getD 2 M (.int .i64 0) = .int .i64 0) (hl : Go.Tn.get (2, 0) L = none) (hne : mn ≠ mm ∧ mn ≠ mr ∧ mm ≠ mr ∧ t ≠ mn ∧ t ≠ mm ∧ t ≠ mr ∧ r ≠ mn ∧ r ≠ mm ∧ r ≠ mr) :
    Calls Try.prog 7 #[.pointer (some ⟨t, 0, none⟩), .agg #[.int .i64 2, .int .i64 fi, .int .i64 fg, .int .i64 di, .int .i64 dg, .string nm, .string ot, .int .i64 at_, .string da], .agg #[.int .i64 0, .int .i64 2, .int .i64 1, .int .i64 0, .string ⟨#[]⟩, .slice none 0 0]] w
    fun e w' => e = .returned (.bool true) ∧ Made w w' t mn mm r mr cs L c M d nm ce := by
  have hb : Below w.heap.size w ((w.alloc (.cells #[.int .i64 2, .int .i64 fi, .int .i64 fg, .int .i64 di, .int .i64 dg, .string nm, .string ot, .int .i64 at_, .string da] 25)).alloc (.cells #[.int .i64 0, .int .i64 2, .int .i64 1, .int .i64 0, .string ⟨#[]⟩, .slice none 0 0] 39)) := ((Below.refl _ _).alloc (Nat.le_refl _) _).alloc (by simp) _
  have hlt : ((w.alloc (.cells #[.int .i64 2, .int .i64 fi, .int .i64 fg, .int .i64 di, .int .i64 dg, .string nm, .string ot, .int .i64 at_, .string da] 25)).alloc (.cells #[.int .i64 0, .int .i64 2, .int .i64 1, .int .i64 0, .string ⟨#[]⟩, .slice none 0 0] 39)).heap.size = w.heap.size + 2 := by simp
  have hlc : Lies ((w.alloc (.cells #[.int .i64 2, .int .i64 fi, .int .i64 fg, .int .i64 di, .int .i64 dg, .string nm, .string ot, .int .i64 at_, .string da] 25)).alloc (.cells #[.int .i64 0, .int .i64 2, .int .i64 1, .int .i64 0, .string ⟨#[]⟩, .slice none 0 0] 39)) w.heap.size 0 #[.int .i64 2, .int .i64 fi, .int .i64 fg, .int .i64 di, .int .i64 dg, .string nm, .string ot, .int .i64 at_, .string da] := lies_of (heap_alloc_of heap_alloc_at)
  have hlr : Lies ((w.alloc (.cells #[.int .i64 2, .int .i64 fi, .int .i64 fg, .int .i64 di, .int .i64 dg, .string nm, .string ot, .int .i64 at_, .string da] 25)).alloc (.cells #[.int .i64 0, .int .i64 2, .int .i64 1, .int .i64 0, .string ⟨#[]⟩, .slice none 0 0] 39)) (w.heap.size + 1) 0 #[.int .i64 0, .int .i64 2, .int .i64 1, .int .i64 0, .string ⟨#[]⟩, .slice none 0 0] := by
    have e : (w.alloc (.cells #[.int .i64 2, .int .i64 fi, .int .i64 fg, .int .i64 di, .int .i64 dg, .string nm, .string ot, .int .i64 at_, .string da] 25)).heap.size = w.heap.size + 1 := by simp
    rw [← e]
    exact lies_of heap_alloc_at
  have h1 := h.below hb
  have hn1 := hn.below hb
  have hMu := Must_mk h1 hn1 h0 fi fg di dg at_ nm ot da hg hnm false rfl (x0 := ⟨#[]⟩) (x1 := 0) (x2 := 0) (x3 := 0) rfl
  simp only [Bool.false_eq_true, if_false] at hMu
  have hok := ok_yes h1
  have HG := Lib.hid hg
  have HM := Lib.hid hm
  have HL := Lib.hid hl
  have HN := Lib.hid hne
  clear h hn hg hm hl hne hnm
  go_enter Try.func7, Try.ntmps7
  go_wp2_with fail
  refine hok.mono ?_
  rintro e w2 ⟨rfl, hw⟩
  obtain rfl := hw.symm
  clear hw hok
  go_wp2_with fail
  refine hMu.mono ?_
  rintro e w2 ⟨rfl, hb2⟩
  have h2 := h1.below hb2
  have hn2 := hn1.below hb2
  have hlc2 := hlc.below' hb2 (by omega)
  have hlr2 := hlr.below' hb2 (by omega)
  have hb02 := hb.trans (hb2.mono hb.size)
  have c0 := hlc2 0 (by simp)
  have r0 := hlr2 0 (by simp)
  have r3 := hlr2 4 (by simp)
  clear hMu hlc hlr h1 hn1 hb2 hb hlt
  go_wp2_with (first
    | ((with_reducible refine wpList_execW (exec_loadA (aggK _ _ _ _ _ _ _ _ _) ?_ hlc2) ?_ ?_); rfl; rfl; go_frame)
    | ((with_reducible refine wpList_execW (exec_loadA (aggR _ _) ?_ hlr2) ?_ ?_); rfl; rfl; go_frame)
    | fail)
  refine (done_ok h2 hn2 hwL hwM fi fg di dg at_ nm ot da HG.out HM.out HL.out HN.out).mono ?_
  rintro e w3 ⟨rfl, hmd⟩
  have HMD := Lib.hid hmd
  clear hmd
  go_wp2
  go_ret
  exact ⟨rfl, Made.back hb02 HMD.out⟩
end
end Go.Proofs.Yteafnipciofamaa
