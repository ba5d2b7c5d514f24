/- Increasing lists: the reference's insertion, the program's listing of a family; conditions: as each theorem states. -/
import Derived.Test.YtnpfkbfmipnofaaCFnExactChordalSpaceQFam
import Derived.Test.YtnpfkbfmipnofaaCFnExactChordalSpaceQHas
import Derived.Test.YtnpfkbfmipnofaaCFnExactChordalSpaceP5
namespace Go.Proofs.Ytnpfkbfmipnofaa.Q
open Go.RowKit Go.Proofs.YtnpfkbfmipnofaaW.PrintWords Go.Proofs.YtnpfkbfmipnofaaW.PrintLast Go.Proofs.YtnpfkbfmipnofaaW.PrintMore Go.Proofs.Ytnpfkbfmipnofaa.P
set_option linter.unusedVariables false
set_option linter.unusedSimpArgs false

theorem inc_ext : ∀ {a b : List Nat}, Inc a → Inc b → (∀ x, x ∈ a ↔ x ∈ b) → a = b
  | [], [], _, _, _ => rfl
  | [], y :: b, _, _, h => absurd ((h y).2 (by simp)) (by simp)
  | x :: a, [], _, _, h => absurd ((h x).1 (by simp)) (by simp)
  | x :: a, y :: b, ha, hb, h => by
    have hxa : ∀ z ∈ a, x < z := fun z hz => List.rel_of_pairwise_cons ha hz
    have hyb : ∀ z ∈ b, y < z := fun z hz => List.rel_of_pairwise_cons hb hz
    have e : x = y := by
      rcases List.mem_cons.1 ((h x).1 (by simp)) with h1 | h1
      · exact h1
      · rcases List.mem_cons.1 ((h y).2 (by simp)) with h2 | h2
        · exact h2.symm
        · have := hxa y h2; have := hyb x h1; omega
    subst e
    rw [inc_ext (List.Pairwise.of_cons ha) (List.Pairwise.of_cons hb) (fun z => ?_)]
    constructor
    · intro hz
      rcases List.mem_cons.1 ((h z).1 (by simp [hz])) with h1 | h1
      · have := hxa z hz; omega
      · exact h1
    · intro hz
      rcases List.mem_cons.1 ((h z).2 (by simp [hz])) with h1 | h1
      · have := hyb z hz; omega
      · exact h1
/-- The members of a family, in order. -/
def listN (p : Nat → Bool) : List Nat := (List.range 128).filter p
theorem mem_listN {p : Nat → Bool} {x : Nat} : x ∈ listN p ↔ x < 128 ∧ p x = true := by simp [listN]
theorem inc_range : ∀ n : Nat, Inc (List.range n)
  | 0 => List.Pairwise.nil
  | n + 1 => by
    rw [List.range_succ]
    refine List.pairwise_append.2 ⟨inc_range n, List.pairwise_singleton _ _, ?_⟩
    intro a ha b hb
    have := List.mem_range.1 ha
    have := List.mem_singleton.1 hb
    omega
theorem inc_listN (p : Nat → Bool) : Inc (listN p) := (inc_range 128).filter _
theorem fam_space_loop (p : Nat → Bool) (n : Int) : ∀ d i : Nat, i + d = 128 →
    Ev (fun k => impl_family_space.l0 k (famN p) (i : Int) n (castL ((List.range i).filter p))) (n, castL (listN p)) := by
  intro d
  induction d with
  | zero =>
    intro i h
    obtain rfl : i = 128 := by omega
    refine Ev.step (fun k => by rw [impl_family_space.l0]) ?_
    simp only [show ¬ (((128 : Nat) : Int) < 128) from by omega, ↓reduceIte]
    exact Ev.some _
  | succ d ih =>
    intro i h
    have hi : i < 128 := by omega
    have hn := ih (i + 1) (by omega)
    rw [List.range_succ, List.filter_append] at hn
    have hl : ((List.range i).filter p).length ≤ 128 := Nat.le_trans (List.length_filter_le _ _) (by simp; omega)
    refine Ev.step (fun k => by rw [impl_family_space.l0]) ?_
    simp only [show ((i : Int) < 128) from by omega, show (0 : Int) ≤ (i : Int) from by omega, famN_length, show ((i : Int) < ((128 : Nat) : Int)) from by omega, famN_get _ hi, castL_length, show ((List.range i).filter p).length < 17592186044416 from by omega, ↓reduceIte]
    rw [wnext (n := 128) hi (by omega)]
    cases hb : p i with
    | true =>
      simp only [↓reduceIte]
      rw [List.filter_cons_of_pos (by simpa using hb), List.filter_nil, castL_append] at hn
      exact hn
    | false =>
      simp only [↓reduceIte, Bool.false_eq_true]
      rw [List.filter_cons_of_neg (by simp [hb]), List.filter_nil, List.append_nil] at hn
      exact hn
theorem fam_space_ev (p : Nat → Bool) (n : Int) : Ev (fun k => impl_family_space.f k (famN p) n) (n, castL (listN p)) := by
  unfold impl_family_space.f
  simpa [castL] using fam_space_loop p n 128 0 rfl
end Go.Proofs.Ytnpfkbfmipnofaa.Q
