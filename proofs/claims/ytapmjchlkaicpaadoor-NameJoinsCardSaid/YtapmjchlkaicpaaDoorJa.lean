/- Paths made of names: the plain law. No program. -/
import Derived.Test.YtapmjchlkaicpaaDoorPl
import Derived.Lib.Join
namespace Go.Tn.Names
open Go Go.Lib

/-- A slash ahead of each. -/
def tl : List (List UInt8) → List UInt8
  | [] => []
  | x :: r => 47 :: (x ++ tl r)
theorem tl_snoc (L : List (List UInt8)) (x : List UInt8) : tl (L ++ [x]) = tl L ++ (47 :: x) := by
  induction L with
  | nil => simp [tl]
  | cons y r ih => simp [tl, ih]
/-- The path that some names make. -/
def joinP (L : List (List UInt8)) : List UInt8 := if L.length ≤ 8 ∧ L.all isName = true then (if L = [] then [47] else tl L) else []

theorem join_tl (L : List (List UInt8)) (h : L ≠ []) : 47 :: Lib.join L [47] = tl L := by
  induction L with
  | nil => exact absurd rfl h
  | cons x r ih =>
    cases r with
    | nil => simp [Lib.join, tl, List.intercalate]
    | cons y r =>
      have := ih (by simp)
      have e : Lib.join (x :: y :: r) [47] = x ++ 47 :: Lib.join (y :: r) [47] := by
        simp [Lib.join, List.intercalate]
      rw [e, this]
      rfl

theorem pre_pre (x y : List UInt8) (L : List (List UInt8)) (h : L ≠ []) : pre x (pre y L) = pre (x ++ y) L := by
  cases L with
  | nil => exact absurd rfl h
  | cons z r => simp [pre]
theorem parts_app : ∀ (x l : List UInt8), (∀ c ∈ x, c ≠ 47) → parts (x ++ l) = pre x (parts l)
  | [], l, _ => by rw [List.nil_append, pre_nil (parts_ne l)]
  | c :: x, l, h => by
    have hc := h c (by simp)
    have ih := parts_app x l (fun d hd => h d (by simp [hd]))
    have e := pre_byte [] (x ++ l) hc
    rw [pre_nil (parts_ne _), List.nil_append] at e
    rw [List.cons_append, e, ih, pre_pre _ _ _ (parts_ne l)]
    rfl
theorem name_clean {x : List UInt8} (h : isName x = true) : ∀ c ∈ x, c ≠ 47 := by
  simp only [isName, Bool.and_eq_true] at h
  intro c hc
  have := List.all_eq_true.1 h.1.1.1.1 c hc
  simp only [okByte, Bool.and_eq_true, bne_iff_ne, ne_eq] at this
  exact this.2
theorem name_len {x : List UInt8} (h : isName x = true) : 0 < x.length ∧ x.length < 17 := by
  simp only [isName, Bool.and_eq_true, decide_eq_true_eq] at h
  exact ⟨h.1.1.1.2, h.1.1.2⟩
theorem parts_tl : ∀ (x : List UInt8) (r : List (List UInt8)), (∀ y ∈ x :: r, isName y = true) → parts (x ++ tl r) = x :: r
  | x, [], h => by rw [parts_app _ _ (name_clean (h x (by simp)))]; simp [tl, parts, pre]
  | x, y :: r, h => by
    rw [parts_app _ _ (name_clean (h x (by simp)))]
    have := parts_tl y r (fun z hz => h z (by simp at hz ⊢; right; exact hz))
    rw [tl, pre_slash, this]
theorem tl_parts : ∀ t, tl (parts t) = 47 :: t
  | [] => rfl
  | c :: l => by
    have ih := tl_parts l
    by_cases hc : c = 47
    · rw [parts, if_pos hc, tl, ih, hc]; rfl
    · cases hp : parts l with
      | nil => exact absurd hp (parts_ne l)
      | cons p ps =>
        rw [hp, tl] at ih
        rw [parts, if_neg hc, hp, tl]
        simp only [List.cons.injEq, true_and] at ih
        rw [List.cons_append, ih]

def okNames (L : List (List UInt8)) : Prop := L.length ≤ 8 ∧ L.all isName = true
theorem joinP_no {L : List (List UInt8)} (h : ¬ okNames L) : joinP L = [] := by unfold joinP; exact if_neg h
theorem joinP_yes {L : List (List UInt8)} (h : okNames L) : joinP L = if L = [] then [47] else tl L := by unfold joinP; exact if_pos h
theorem joinP_ne {L : List (List UInt8)} (h : okNames L) : joinP L ≠ [] := by
  rw [joinP_yes h]
  split
  · simp
  · cases L with
    | nil => contradiction
    | cons x r => simp [tl]
theorem split_join {L : List (List UInt8)} (h : okNames L) : splitP (joinP L) = some L := by
  rw [joinP_yes h]
  cases L with
  | nil => rfl
  | cons x r =>
    have hall := List.all_eq_true.1 h.2
    have hx := name_len (hall x (by simp))
    rw [if_neg (by simp), tl]
    have hne : x ++ tl r ≠ [] := by
      intro e
      have h2 : (x ++ tl r).length = 0 := by rw [e]; rfl
      rw [List.length_append] at h2
      omega
    simp only [splitP, if_neg hne]
    rw [parts_tl x r hall]
    exact if_pos h
theorem join_split {p : List UInt8} {L : List (List UInt8)} (h : splitP p = some L) : okNames L ∧ joinP L = p := by
  unfold splitP at h
  split at h
  · rename_i t
    split at h
    · rename_i ht
      cases h
      subst ht
      exact ⟨⟨by simp, rfl⟩, rfl⟩
    · split at h
      · rename_i hok
        cases h
        refine ⟨hok, ?_⟩
        rw [joinP_yes hok, if_neg (parts_ne t), tl_parts]
      · cases h
  · cases h
theorem tl_len (L : List (List UInt8)) (h : L.all isName = true) : (tl L).length ≤ 17 * L.length := by
  induction L with
  | nil => simp [tl]
  | cons x r ih =>
    simp only [List.all_cons, Bool.and_eq_true] at h
    have := ih h.2
    have hx := name_len h.1
    simp only [tl, List.length_cons, List.length_append]
    omega
end Go.Tn.Names
