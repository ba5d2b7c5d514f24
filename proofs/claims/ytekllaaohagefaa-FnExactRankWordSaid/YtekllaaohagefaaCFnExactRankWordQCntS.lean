/- How many items a set has: the reference's count; increasing lists; conditions: as each theorem states. -/
import Derived.Test.YtekllaaohagefaaCFnExactRankWordQHas
import Derived.Test.YtekllaaohagefaaCFnExactRankWordQSet
import Derived.Test.YtekllaaohagefaaCFnExactRankWordP4
namespace Go.Proofs.Ytekllaaohagefaa.Q
open Go.RowKit Go.Proofs.YtekllaaohagefaaW.PrintWords Go.Proofs.YtekllaaohagefaaW.PrintLast Go.Proofs.YtekllaaohagefaaW.PrintMore Go.Proofs.Ytekllaaohagefaa.P
set_option linter.unusedVariables false
set_option linter.unusedSimpArgs false

def cntN (x : Nat) : Nat := (itemsN x).length
theorem spCount_all : ∀ x : Fin 128, spec_spCount.f 9 (x.val : Int) = some ((cntN x.val : Nat) : Int) := by decide +kernel
theorem spCount_ev {x : Nat} (hx : x < 128) : Ev (fun k => spec_spCount.f k (x : Int)) ((cntN x : Nat) : Int) :=
  Ev.at (fun k => spec_spCount.mono _ k) 9 (spCount_all ⟨x, hx⟩)
theorem inc_ext : ∀ {a b : List Nat}, Inc a → Inc b → (∀ x, x ∈ a ↔ x ∈ b) → a = b
  | [], [], _, _, _ => rfl
  | [], y :: b, _, _, h => absurd ((h y).2 (by simp)) (by simp)
  | x :: a, [], _, _, h => absurd ((h x).1 (by simp)) (by simp)
  | x :: a, y :: b, ha, hb, h => by
    have hxa : ∀ z ∈ a, x < z := fun z hz => List.rel_of_pairwise_cons ha hz
    have hyb : ∀ z ∈ b, y < z := fun z hz => List.rel_of_pairwise_cons hb hz
    have e : x = y := by
      rcases List.mem_cons.1 ((h x).1 (by simp)) with h1 | h1
      · exact h1
      · rcases List.mem_cons.1 ((h y).2 (by simp)) with h2 | h2
        · exact h2.symm
        · have := hxa y h2; have := hyb x h1; omega
    subst e
    rw [inc_ext (List.Pairwise.of_cons ha) (List.Pairwise.of_cons hb) (fun z => ?_)]
    constructor
    · intro hz
      rcases List.mem_cons.1 ((h z).1 (by simp [hz])) with h1 | h1
      · have := hxa z hz; omega
      · exact h1
    · intro hz
      rcases List.mem_cons.1 ((h z).2 (by simp [hz])) with h1 | h1
      · have := hyb z hz; omega
      · exact h1
end Go.Proofs.Ytekllaaohagefaa.Q
