import Derived.Test.YtbdjkbaieokbhaaWl
import Derived.WalkKit
import Derived.ProofKit
import Derived.OpenShut
import Derived.ShutString
import Derived.ChangeOld
import Derived.Below
import Derived.Lib.SmallJoins
namespace Go.Proofs.Ytbdjkbaieokbhaa
open Go.ChangeShapes Go.WideShapes Go.ChangeAt Go.RowKit Go.Tn Go.Tn.Ghost

theorem Try.own : ownKnob Try.prog.godebug = none := by kernel_rfl
theorem Try.laidOut : laidOutB Try.prog = true := by kernel_rfl

def evTs : List TypeId := [3, 3, 3, 3, 3, 3, 3, 9, 9, 3, 9, 34, 3, 3, 3, 9, 35]
theorem flat39 : flat Try.prog 4 39 = some evTs := by kernel_rfl
theorem cells39 : Try.prog.cellsOf 39 = evTs.length := by kernel_rfl

/-- One event, cell by cell. -/
theorem evt_of {H : Type} {enc : TypeId × Value → H} {w : World} {base : Nat} {spare : Nat → Bool} {held : Bool} {b o : Nat}
    (h : ∀ j u, evTs[j]? = some u → ∃ c, w.cell? ⟨b, o + j, none⟩ = some c ∧ CellOk enc Try.prog w base spare held u c) : ∃ e : Evt, Lies w b o (evArr e) := by
  have hi : ∀ j, evTs[j]? = some 3 → ∃ n, w.cell? ⟨b, o + j, none⟩ = some (.int .i64 n) := fun j hj => by
    obtain ⟨c, h1, h2⟩ := h j _ hj
    obtain ⟨n, rfl, _⟩ := h2.int Try.underlying3
    exact ⟨n, h1⟩
  have hr : ∀ j, evTs[j]? = some 34 → ∃ n, w.cell? ⟨b, o + j, none⟩ = some (.int .i64 n) := fun j hj => by
    obtain ⟨c, h1, h2⟩ := h j _ hj
    obtain ⟨n, rfl, _⟩ := h2.int Try.underlying34
    exact ⟨n, h1⟩
  have hs : ∀ j, evTs[j]? = some 9 → ∃ n, w.cell? ⟨b, o + j, none⟩ = some (.string n) := fun j hj => by
    obtain ⟨c, h1, h2⟩ := h j _ hj
    obtain ⟨n, rfl, _⟩ := h2.string Try.underlying9
    exact ⟨n, h1⟩
  obtain ⟨k, h0⟩ := hi 0 rfl
  obtain ⟨c, h1⟩ := hi 1 rfl
  obtain ⟨ck, h2⟩ := hi 2 rfl
  obtain ⟨i, h3⟩ := hi 3 rfl
  obtain ⟨g, h4⟩ := hi 4 rfl
  obtain ⟨di, h5⟩ := hi 5 rfl
  obtain ⟨dg, h6⟩ := hi 6 rfl
  obtain ⟨nm, h7⟩ := hs 7 rfl
  obtain ⟨ot, h8⟩ := hs 8 rfl
  obtain ⟨a, h9⟩ := hi 9 rfl
  obtain ⟨da, h10⟩ := hs 10 rfl
  obtain ⟨re, h11⟩ := hr 11 rfl
  obtain ⟨ri, h12⟩ := hi 12 rfl
  obtain ⟨rg, h13⟩ := hi 13 rfl
  obtain ⟨rk, h14⟩ := hi 14 rfl
  obtain ⟨rd, h15⟩ := hs 15 rfl
  obtain ⟨ea, el, ec, h16⟩ : ∃ ea el ec, w.cell? ⟨b, o + 16, none⟩ = some (.slice ea el ec) := by
    obtain ⟨x, h1, n, y, h2⟩ := h 16 35 rfl
    obtain ⟨ea, el, ec, h3⟩ := Go.Joins.slice_form Try.underlying35 h2
    simp only [List.cons.injEq, and_true] at h3
    exact ⟨ea, el, ec, by rw [h1, h3]⟩
  refine ⟨⟨k, c, ck, i, g, di, dg, nm, ot, a, da, re, ri, rg, rk, rd, ea, el, ec⟩, fun j hj => ?_⟩
  rw [evArr_size] at hj
  match j, hj with
  | 0, _ => exact h0
  | 1, _ => exact h1
  | 2, _ => exact h2
  | 3, _ => exact h3
  | 4, _ => exact h4
  | 5, _ => exact h5
  | 6, _ => exact h6
  | 7, _ => exact h7
  | 8, _ => exact h8
  | 9, _ => exact h9
  | 10, _ => exact h10
  | 11, _ => exact h11
  | 12, _ => exact h12
  | 13, _ => exact h13
  | 14, _ => exact h14
  | 15, _ => exact h15
  | 16, _ => exact h16
  | j + 17, hj => omega

/-- What the law is handed: a list of events. -/
theorem evs_of {H : Type} {enc : TypeId × Value → H} {w : World} {base : Nat} {spare : Nat → Bool} {held : Bool} {ao : Option Addr} {n cap : Nat} {x : DataW H} {ps : List MemPlace}
    (h : DataW.Trod enc Try.prog w base spare held 22 (.slice ao n cap) x ps) :
    n ≤ cap ∧ cap ≤ maxLen ∧ ∃ E : Nat → Evt, 0 < n → ∃ b off, ao = some ⟨b, off, none⟩ ∧ b < w.heap.size ∧ EvIn w b off n E := by
  rcases open_flat Try.underlying22 flat39 cells39 (by decide) h ⟨_, _, _, rfl⟩ with hv | ⟨b, off, spot, len, cap', hv, hl, hm, hin, hc⟩
  · cases hv
    exact ⟨Nat.le_refl _, Nat.zero_le _, fun _ => default, fun h => absurd h (Nat.lt_irrefl _)⟩
  · cases hv
    refine ⟨hl, hm, ?_⟩
    have hex : ∀ i : Nat, ∃ e : Evt, i < n → Lies w b (off + i * 17) (evArr e) := fun i => by
      by_cases hi : i < n
      · obtain ⟨e, he⟩ := evt_of (b := b) (o := off + i * 17) (fun j u hu => hc i hi j u hu)
        exact ⟨e, fun _ => he⟩
      · exact ⟨default, fun h => absurd h hi⟩
    refine ⟨fun i => Classical.choose (hex i), fun h0 => ⟨b, off, ?_, (hin h0).2, fun i hi => Classical.choose_spec (hex i) hi⟩⟩
    rw [(hin h0).1]

end Go.Proofs.Ytbdjkbaieokbhaa
