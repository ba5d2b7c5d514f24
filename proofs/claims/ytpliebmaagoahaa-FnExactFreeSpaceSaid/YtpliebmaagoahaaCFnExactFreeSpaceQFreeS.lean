/- The space of all sets: both; conditions: as each theorem states. -/
import Derived.Test.YtpliebmaagoahaaCFnExactFreeSpaceQUp
import Derived.Test.YtpliebmaagoahaaCFnExactFreeSpaceQGood
import Derived.Test.YtpliebmaagoahaaCFnExactFreeSpaceP2
namespace Go.Proofs.Ytpliebmaagoahaa.Q
open Go.RowKit Go.Proofs.YtpliebmaagoahaaW.PrintWords Go.Proofs.YtpliebmaagoahaaW.PrintLast Go.Proofs.YtpliebmaagoahaaW.PrintMore Go.Proofs.Ytpliebmaagoahaa.P
set_option linter.unusedVariables false
set_option linter.unusedSimpArgs false

theorem impl_those__FreeSpace_1_loop {m : Nat} (m7 : m ≤ 7) (p : Nat → Bool) (hp : ∀ x : Nat, x < 2 ^ m → Ev (fun k => impl_FreeSpace_1.f (x : Int)) (p x)) : ∀ d c : Nat, c + d = 2 ^ m →
    Ev (fun k => impl_those__FreeSpace_1.l0 k ((2 ^ m : Nat) : Int) (c : Int) (m : Int) (castL (upN p c))) ((m : Int), castL (upN p (2 ^ m))) := by
  have hp2 := pow_le_128 m7
  intro d
  induction d with
  | zero =>
    intro c h
    obtain rfl : c = 2 ^ m := by omega
    refine Ev.step (fun k => by rw [impl_those__FreeSpace_1.l0]) ?_
    simp only [show ¬ (((2 ^ m : Nat) : Int) < ((2 ^ m : Nat) : Int)) from by omega, ↓reduceIte]
    exact Ev.some _
  | succ d ih =>
    intro c h
    have hc : c < 2 ^ m := by omega
    have hn := ih (c + 1) (by omega)
    rw [upN_succ] at hn
    have hl := upN_le p c
    refine Ev.step (fun k => by rw [impl_those__FreeSpace_1.l0]) ?_
    simp only [show ((c : Int) < ((2 ^ m : Nat) : Int)) from by omega, ↓reduceIte]
    refine Ev.bind (hp c hc) ?_
    rw [wnext (n := 2 ^ m) hc (by omega)]
    by_cases hpc : p c = true
    · simp only [hpc, ↓reduceIte, castL_length, show (upN p c).length < 17592186044416 from by omega, castL_snoc] at hn ⊢
      exact hn
    · simp only [hpc, ↓reduceIte] at hn ⊢
      exact hn
theorem impl_those__FreeSpace_1_ev {m : Nat} (m7 : m ≤ 7) (p : Nat → Bool) (hp : ∀ x : Nat, x < 2 ^ m → Ev (fun k => impl_FreeSpace_1.f (x : Int)) (p x)) :
    Ev (fun k => impl_those__FreeSpace_1.f k (m : Int)) ((m : Int), castL (upN p (2 ^ m))) := by
  unfold impl_those__FreeSpace_1.f
  simp only [show (0 : Int) ≤ (m : Int) from by omega, shl1 (show m ≤ 61 from by omega), ↓reduceIte]
  simpa [upN, castL_nil] using impl_those__FreeSpace_1_loop m7 p hp (2 ^ m) 0 (by omega)
theorem spFree_loop {m : Nat} (m7 : m ≤ 7) : ∀ d c : Nat, c + d = 2 ^ m →
    Ev (fun k => spec_spFree.l0 k (m : Int) (castL (upN (fun _ => true) c)) (c : Int)) (castL (upN (fun _ => true) (2 ^ m))) := by
  have hp2 := pow_le_128 m7
  intro d
  induction d with
  | zero =>
    intro c h
    obtain rfl : c = 2 ^ m := by omega
    refine Ev.step (fun k => by rw [spec_spFree.l0]) ?_
    simp only [show (0 : Int) ≤ (m : Int) from by omega, shl1 (show m ≤ 61 from by omega), show ¬ (((2 ^ m : Nat) : Int) < ((2 ^ m : Nat) : Int)) from by omega, ↓reduceIte]
    exact Ev.some _
  | succ d ih =>
    intro c h
    have hn := ih (c + 1) (by omega)
    have hl := upN_le (fun _ => true) c
    rw [upN_succ, if_pos rfl] at hn
    refine Ev.step (fun k => by rw [spec_spFree.l0]) ?_
    simp only [show (0 : Int) ≤ (m : Int) from by omega, shl1 (show m ≤ 61 from by omega), show ((c : Int) < ((2 ^ m : Nat) : Int)) from by omega, castL_length, show (upN (fun _ => true) c).length < 17592186044416 from by omega, castL_snoc, ↓reduceIte]
    rw [wnext (n := 2 ^ m) (by omega) (by omega)]
    exact hn
theorem FreeSpace_both (a : Int) : ∃ (n' : Int) (L : List Int) (b : Bool), L.length ≤ 1048576 ∧ Ev (fun k => spec_FreeSpace.f k a) (n', L, b) ∧ Ev (fun k => impl_FreeSpace.f k a) (n', L, b) := by
  by_cases h : 1 ≤ a ∧ a ≤ 7
  · obtain ⟨m, rfl⟩ := Int.eq_ofNat_of_zero_le (show 0 ≤ a by omega)
    have m7 : m ≤ 7 := by omega
    have hp2 := pow_le_128 m7
    have hl := upN_le (fun _ => true) (2 ^ m)
    refine ⟨(m : Int), castL (upN (fun _ => true) (2 ^ m)), true, by rw [castL_length]; omega, ?_, ?_⟩
    · unfold spec_FreeSpace.f
      simp only [spItems_eq, Option.bind_some, decide_eq_true h, ↓reduceIte]
      have : Ev (fun k => spec_spFree.f k (m : Int)) (castL (upN (fun _ => true) (2 ^ m))) := by
        unfold spec_spFree.f
        simpa [upN, castL_nil] using spFree_loop m7 (2 ^ m) 0 (by omega)
      exact Ev.bind this (Ev.some _)
    · unfold impl_FreeSpace.f
      simp only [isSize_eq, Option.bind_some, decide_eq_true h, ↓reduceIte]
      exact Ev.bind (impl_those__FreeSpace_1_ev m7 (fun _ => true) (fun x _ => Ev.some _)) (Ev.some _)
  · refine ⟨0, [], false, by simp, ?_, ?_⟩
    · unfold spec_FreeSpace.f
      simp only [spItems_eq, Option.bind_some, decide_eq_false h, ↓reduceIte, Bool.false_eq_true]
      exact Ev.some _
    · unfold impl_FreeSpace.f
      simp only [isSize_eq, Option.bind_some, decide_eq_false h, ↓reduceIte, Bool.false_eq_true]
      exact Ev.some _
end Go.Proofs.Ytpliebmaagoahaa.Q
