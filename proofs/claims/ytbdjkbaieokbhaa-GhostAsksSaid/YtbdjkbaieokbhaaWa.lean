import Derived.Test.YtbdjkbaieokbhaaRows
import Derived.Test.YtbdjkbaieokbhaaLib
import Derived.Test.YtbdjkbaieokbhaaGhost
namespace Go.Proofs.Ytbdjkbaieokbhaa
open Go.RowKit Go.Tn Go.Tn.Ghost

theorem agg39 (e : Evt) : AggT Try.prog 39 (evArr e).size := ⟨⟨_, Try.underlying39, rfl⟩, by kernel_rfl⟩

/-- n events that lie in memory. -/
def EvIn (w : World) (b off n : Nat) (E : Nat → Evt) : Prop := ∀ i, i < n → Lies w b (off + i * 17) (evArr (E i))

theorem EvIn.below {w w' : World} {b off n : Nat} {E : Nat → Evt} {B : Nat} (h : EvIn w b off n E) (hb : Below B w w') (hB : b < B) : EvIn w' b off n E :=
  fun i hi j hj => (hb.cell (p := ⟨b, off + i * 17 + j, none⟩) hB).trans (h i hi j hj)
theorem EvIn.cell0 {w : World} {b off n : Nat} {E : Nat → Evt} (h : EvIn w b off n E) {i : Nat} (hi : i < n) : w.cell? ⟨b, off + i * 17, none⟩ = some (.int .i64 (E i).k) := h i hi 0 (by rw [evArr_size]; omega)
theorem EvIn.cell1 {w : World} {b off n : Nat} {E : Nat → Evt} (h : EvIn w b off n E) {i : Nat} (hi : i < n) : w.cell? ⟨b, off + i * 17 + 1, none⟩ = some (.int .i64 (E i).c) := h i hi 1 (by rw [evArr_size]; omega)

set_option maxHeartbeats 400000 in
theorem about_any (w : World) (e0 e1 : Evt) :
    Calls Try.prog 15 #[.agg (evArr e0), .agg (evArr e1)] w fun e w' => e = .returned (.bool (here e0 e1)) ∧ Below w.heap.size w w' := by
  have HB : ∀ (x y : Obj), Below w.heap.size w ((w.alloc x).alloc y) := fun x y => ((Below.refl _ _).alloc (Nat.le_refl _) _).alloc (by simp) _
  by_cases h1 : e0.c = e1.c
  · by_cases h2 : e0.i = e1.i
    · by_cases h3 : e0.g = e1.g
      · have hf1 : (e0.c == e1.c) = true := by simpa using h1
        have hf2 : (e0.i == e1.i) = true := by simpa using h2
        have hf3 : (e0.g == e1.g) = true := by simpa using h3
        by_cases h4 : e0.a = e1.a
        · have hf4 : (e0.a == e1.a) = true := by simpa using h4
          have H : here e0 e1 = true := by simp [here, h1, h2, h3, h4]
          clear h1 h2 h3 h4
          go_enter Try.func15, Try.ntmps15
          go_wp2
          all_goals go_ret
          all_goals exact ⟨by rw [H]; rfl, by simpa using HB _ _⟩
        · have hf4 : (e0.a == e1.a) = false := by simpa using h4
          have H : here e0 e1 = false := by simp [here, h1, h2, h3, h4]
          clear h1 h2 h3 h4
          go_enter Try.func15, Try.ntmps15
          go_wp2
          all_goals go_ret
          all_goals exact ⟨by rw [H]; rfl, by simpa using HB _ _⟩
      · have hf1 : (e0.c == e1.c) = true := by simpa using h1
        have hf2 : (e0.i == e1.i) = true := by simpa using h2
        have hf3 : (e0.g == e1.g) = false := by simpa using h3
        have H : here e0 e1 = false := by simp [here, h1, h2, h3]
        clear h1 h2 h3
        go_enter Try.func15, Try.ntmps15
        go_wp2
        all_goals go_ret
        all_goals exact ⟨by rw [H]; rfl, by simpa using HB _ _⟩
    · have hf1 : (e0.c == e1.c) = true := by simpa using h1
      have hf2 : (e0.i == e1.i) = false := by simpa using h2
      have H : here e0 e1 = false := by simp [here, h1, h2]
      clear h1 h2
      go_enter Try.func15, Try.ntmps15
      go_wp2
      all_goals go_ret
      all_goals exact ⟨by rw [H]; rfl, by simpa using HB _ _⟩
  · have hf1 : (e0.c == e1.c) = false := by simpa using h1
    have H : here e0 e1 = false := by simp [here, h1]
    clear h1
    go_enter Try.func15, Try.ntmps15
    go_wp2
    all_goals go_ret
    all_goals exact ⟨by rw [H]; rfl, by simpa using HB _ _⟩

end Go.Proofs.Ytbdjkbaieokbhaa
