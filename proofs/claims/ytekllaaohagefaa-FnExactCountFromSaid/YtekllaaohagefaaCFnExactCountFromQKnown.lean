/- Is a number one of a valid space's sets: the program and the reference; conditions: as each theorem states. -/
import Derived.Test.YtekllaaohagefaaCFnExactCountFromQHasSetI
import Derived.Test.YtekllaaohagefaaCFnExactCountFromP3
namespace Go.Proofs.Ytekllaaohagefaa.Q
open Go.RowKit Go.Proofs.YtekllaaohagefaaW.PrintWords Go.Proofs.YtekllaaohagefaaW.PrintLast Go.Proofs.YtekllaaohagefaaW.PrintMore Go.Proofs.Ytekllaaohagefaa.P
set_option linter.unusedVariables false
set_option linter.unusedSimpArgs false

theorem known_cases {n : Int} {S : List Int} (hS : S.length ≤ 1099511627776) (a : Int) :
    (Ev (fun k => impl_isKnown.f k n S a) false ∧ Ev (fun k => spec_spOne.f k n S a) false) ∨
    ∃ (m : Nat) (T : List Nat) (x : Nat), n = (m : Int) ∧ S = castL T ∧ a = (x : Int) ∧ SpN m T ∧ x ∈ T ∧ Ev (fun k => impl_isKnown.f k (m : Int) (castL T) (x : Int)) true ∧ Ev (fun k => spec_spOne.f k (m : Int) (castL T) (x : Int)) true := by
  cases hg : goodB n S with
  | false =>
    refine .inl ⟨?_, ?_⟩
    · unfold impl_isKnown.f
      refine Ev.bind (hasSet_no hS hg a) ?_
      simp only [↓reduceIte, Bool.false_eq_true]
      exact Ev.some _
    · unfold spec_spOne.f
      refine Ev.bind ((spec_spGood_ev n S hS).eq hg) ?_
      simp only [↓reduceIte, Bool.false_eq_true]
      exact Ev.some _
  | true =>
    obtain ⟨m, T, rfl, rfl, h⟩ := good_space hg
    have hspec : Ev (fun k => spec_spOne.f k (m : Int) (castL T) a) (decide (a ∈ castL T)) := by
      unfold spec_spOne.f
      refine Ev.bind h.spec ?_
      simp only [↓reduceIte]
      exact Ev.bind (spHas_int h.inc h.small a) (Ev.some _)
    have himpl : Ev (fun k => impl_isKnown.f k (m : Int) (castL T) a) (decide (a ∈ castL T)) := by
      unfold impl_isKnown.f
      refine Ev.bind (hasSet_sp h a) ?_
      by_cases ha : 0 ≤ a ∧ a ≤ ((2 ^ m - 1 : Nat) : Int)
      · have hp : 0 < 2 ^ m := Nat.two_pow_pos _
        have hp2 := pow_le_128 h.m7
        obtain ⟨x, rfl⟩ := Int.eq_ofNat_of_zero_le ha.1
        have hx : x < 128 := by omega
        simp only [ha, and_self, decide_true, ↓reduceIte]
        refine Ev.bind (family_ev _ T h.lt128 h.small) ?_
        simp only [famN_length, show (0 : Int) ≤ (x : Int) from by omega, show ((x : Int) < ((128 : Nat) : Int)) from by omega, show ((x : Int) < 128) from by omega, ↓reduceIte, famN_get _ hx]
        exact (Ev.some _).eq (by simp [mem_castL])
      · simp only [ha, decide_false, ↓reduceIte, Bool.false_eq_true]
        refine (Ev.some _).eq ?_
        have : a ∉ castL T := by
          intro hm
          obtain ⟨y, hy, rfl⟩ := List.mem_map.1 hm
          have := h.lt y hy
          exact ha (by omega)
        simp [this]
    by_cases ha : a ∈ castL T
    · obtain ⟨y, hy, rfl⟩ := List.mem_map.1 ha
      exact .inr ⟨m, T, y, rfl, rfl, rfl, h, hy, himpl.eq (by simp [ha]), hspec.eq (by simp [ha])⟩
    · exact .inl ⟨himpl.eq (by simp [ha]), hspec.eq (by simp [ha])⟩
end Go.Proofs.Ytekllaaohagefaa.Q
