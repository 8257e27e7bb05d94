/- Names and paths as lists of bytes: the plain law. No program. -/
import Derived.Lib.SplitLaws
namespace Go.Tn.Names
open Go Go.Lib

def okByte (c : UInt8) : Bool := decide (32 < c.toNat) && decide (c.toNat < 127) && (c != 47)
/-- Whether a text is a name. -/
def isName (l : List UInt8) : Bool := l.all okByte && decide (0 < l.length) && decide (l.length < 17) && (l != [46]) && (l != [46, 46])
/-- The pieces between the slashes. -/
def parts : List UInt8 → List (List UInt8)
  | [] => [[]]
  | c :: l => if c = 47 then [] :: parts l else match parts l with
    | p :: ps => (c :: p) :: ps
    | [] => [[c]]
theorem parts_ne : ∀ l, parts l ≠ []
  | [] => by simp [parts]
  | c :: l => by
    unfold parts
    split
    · simp
    · split <;> simp

theorem split_parts : ∀ s : List UInt8, splitK [47] 0 (count s [47]) s = parts s
  | [] => by
    have : count [] [47] = 0 := by decide
    rw [this]; rfl
  | c :: l => by
    by_cases hc : c = 47
    · subst hc
      have hi : index (47 :: l) [47] = ((0 : Nat) : Int) := index_first (Nat.zero_le _) (by simp [occAt]) (fun j hj => absurd hj (Nat.not_lt_zero _))
      rw [count_cons_eq, Nat.add_comm 1]
      unfold splitK
      rw [if_neg (by rw [hi]; decide), hi]
      simp only [Int.toNat_natCast, Nat.zero_add, Nat.add_zero, List.take_zero, List.length_cons, List.length_nil, List.drop_succ_cons, List.drop_zero]
      rw [split_parts l]
      simp [parts]
    · have ih := split_parts l
      rw [count_cons_ne c 47 l hc]
      have hfirst : index (c :: l) [47] = if index l [47] = -1 then -1 else index l [47] + 1 := by
        rw [index]
        have : ([47] : List UInt8).isPrefixOf (c :: l) = false := by
          simp [List.isPrefixOf]
          intro h; exact hc h.symm
        simp [this]
      rcases index_spec l [47] with ⟨hm, _⟩ | ⟨i, hi, _, _, _⟩
      · have h0 : count l [47] = 0 := count_miss hm
        rw [h0] at ih ⊢
        simp only [splitK] at ih ⊢
        unfold parts
        rw [if_neg hc, ← ih]
      · have h1 : count l [47] = 1 + count (l.drop (i + 1)) [47] := count_hit (by simp) hi
        rw [h1, Nat.add_comm 1] at ih ⊢
        have hne : ¬ (index l [47] == -1) = true := by rw [hi]; simp <;> omega
        have e : index (c :: l) [47] = ((i + 1 : Nat) : Int) := by rw [hfirst, hi, if_neg (by omega)]; omega
        have hne' : ¬ (index (c :: l) [47] == -1) = true := by rw [e]; simp <;> omega
        unfold splitK at ih ⊢
        rw [if_neg hne, hi] at ih
        rw [if_neg hne', e]
        simp only [Int.toNat_natCast, Nat.add_zero, List.length_cons, List.length_nil, Nat.zero_add] at ih ⊢
        rw [List.take_succ_cons, List.drop_succ_cons]
        unfold parts
        rw [if_neg hc, ← ih]

/-- The names of a path. -/
def splitP (p : List UInt8) : Option (List (List UInt8)) := match p with
  | 47 :: t => if t = [] then some [] else if (parts t).length ≤ 8 ∧ (parts t).all isName = true then some (parts t) else none
  | _ => none

/-- A text ahead of the first piece. -/
def pre (s : List UInt8) : List (List UInt8) → List (List UInt8)
  | x :: r => (s ++ x) :: r
  | [] => [s]
theorem pre_nil {L : List (List UInt8)} (h : L ≠ []) : pre [] L = L := by cases L with | nil => exact absurd rfl h | cons => simp [pre]
theorem pre_slash (s l : List UInt8) : pre s (parts (47 :: l)) = s :: parts l := by simp [parts, pre]
theorem pre_byte (s l : List UInt8) {c : UInt8} (h : c ≠ 47) : pre s (parts (c :: l)) = pre (s ++ [c]) (parts l) := by
  cases hp : parts l with
  | nil => exact absurd hp (parts_ne l)
  | cons x r =>
    have e : parts (c :: l) = (c :: x) :: r := by rw [parts, if_neg h, hp]
    rw [e]
    simp [pre]
theorem pre_end (s : List UInt8) : pre s (parts []) = [s] := by simp [parts, pre]
end Go.Tn.Names
