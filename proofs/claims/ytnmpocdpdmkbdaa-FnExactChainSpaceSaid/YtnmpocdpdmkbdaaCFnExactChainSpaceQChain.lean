/- The space of a chain: the program's and the reference's; conditions: as each theorem states. -/
import Derived.Test.YtnmpocdpdmkbdaaCFnExactChainSpaceQOrder
import Derived.Test.YtnmpocdpdmkbdaaCFnExactChainSpaceQIns
import Derived.Test.YtnmpocdpdmkbdaaCFnExactChainSpaceP2
namespace Go.Proofs.Ytnmpocdpdmkbdaa.Q
open Go.RowKit Go.Proofs.YtnmpocdpdmkbdaaW.PrintWords Go.Proofs.YtnmpocdpdmkbdaaW.PrintLast Go.Proofs.YtnmpocdpdmkbdaaW.PrintMore Go.Proofs.Ytnmpocdpdmkbdaa.P
set_option linter.unusedVariables false
set_option linter.unusedSimpArgs false

theorem listN_of {T : List Nat} (hi : Inc T) (hT : ∀ x ∈ T, x < 128) : listN (fun y => decide (y ∈ T)) = T := by
  refine inc_ext (inc_listN _) hi (fun x => ?_)
  rw [mem_listN, decide_eq_true_eq]
  exact ⟨fun h => h.2, fun h => ⟨hT x h, h⟩⟩
/-- The sets of a chain. -/
def chainL : List Nat → List Nat → Nat → List Nat
  | [], T, _ => T
  | i :: r, T, s => chainL r (insN (s ||| 2 ^ i) T) (s ||| 2 ^ i)
theorem chainL_inc : ∀ {W T : List Nat} {s : Nat}, Inc T → Inc (chainL W T s)
  | [], _, _, h => h
  | i :: r, T, s, h => chainL_inc (W := r) (inc_insN h)
theorem chainL_lt : ∀ {W T : List Nat} {s : Nat}, (∀ i ∈ W, i < 7) → (∀ x ∈ T, x < 128) → s < 128 → ∀ x ∈ chainL W T s, x < 128
  | [], _, _, _, h, _ => h
  | i :: r, T, s, hW, h, hs => by
    have hp2 : 2 ^ i < 128 := pow_lt_128 (hW i (by simp))
    have hsi := Nat.or_lt_two_pow (n := 7) hs hp2
    refine chainL_lt (W := r) (fun j hj => hW j (by simp [hj])) (fun x hx => ?_) hsi
    rcases mem_insN.1 hx with rfl | hx
    · exact hsi
    · exact h x hx
theorem chainL_length : ∀ {W T : List Nat} {s : Nat}, (chainL W T s).length ≤ T.length + W.length
  | [], _, _ => by simp [chainL]
  | i :: r, T, s => by
    have := chainL_length (W := r) (T := insN (s ||| 2 ^ i) T) (s := s ||| 2 ^ i)
    have := insN_length (x := s ||| 2 ^ i) (l := T)
    simp only [chainL, List.length_cons]; omega
theorem spChain_loop (W : List Nat) (hW : ∀ i ∈ W, i < 7) (hl : W.length ≤ 7) : ∀ (rest pre T : List Nat) (s : Nat), pre ++ rest = W → s < 128 → T.length ≤ 1 + pre.length →
    Ev (fun k => spec_spChain.l0 k (castL T) (s : Int) (castL W) (W.length : Int) (pre.length : Int)) (castL (chainL rest T s)) := by
  intro rest
  induction rest with
  | nil =>
    intro pre T s e hs ht
    obtain rfl : pre = W := by simpa using e
    refine Ev.step (fun k => by rw [spec_spChain.l0]) ?_
    simp only [show ¬ ((pre.length : Int) < (pre.length : Int)) from by omega, ↓reduceIte]
    exact Ev.some _
  | cons i rest ih =>
    intro pre T s e hs ht
    have hi : i < 7 := hW i (by rw [← e]; simp)
    have hp2 : 2 ^ i < 128 := pow_lt_128 hi
    have hlen : W.length = pre.length + (rest.length + 1) := by rw [← e]; simp
    have er : rd (castL W) (pre.length : Int) = (i : Int) := by rw [← e]; exact rd_castL_mid _ _ _
    have hil := insN_length (x := s ||| 2 ^ i) (l := T)
    have hn := ih (pre ++ [i]) (insN (s ||| 2 ^ i) T) (s ||| 2 ^ i) (by simp [e]) (Nat.or_lt_two_pow (n := 7) hs hp2) (by simp; omega)
    simp only [List.length_append, List.length_singleton] at hn
    refine Ev.step (fun k => by rw [spec_spChain.l0]) ?_
    simp only [show ((pre.length : Int) < (W.length : Int)) from by omega, show (0 : Int) ≤ (pre.length : Int) from by omega, castL_length, er, show (0 : Int) ≤ (i : Int) from by omega, shl1 (show i ≤ 61 from by omega), bOr (show s < 2 ^ 62 from by omega) (show 2 ^ i < 2 ^ 62 from by omega), ↓reduceIte]
    refine Ev.bind (spPut_ev T (by omega) _) ?_
    rw [wnext (n := W.length) (by omega) (by omega)]
    exact hn
theorem spChain_ev (W : List Nat) (hW : ∀ i ∈ W, i < 7) (hl : W.length ≤ 7) : Ev (fun k => spec_spChain.f k (castL W)) (castL (chainL W [0] 0)) := by
  unfold spec_spChain.f
  rw [castL_length]
  exact spChain_loop W hW hl W [] [0] 0 rfl (by omega) (by simp)
theorem implChain_loop (W : List Nat) (hW : ∀ i ∈ W, i < 7) (hl : W.length ≤ 7) (x0 : List Int) : ∀ (rest pre T : List Nat) (s : Nat), pre ++ rest = W → s < 128 → Inc T → (∀ x ∈ T, x < 128) →
    Ev (fun k => impl_ChainSpace.l0 k x0 (famN fun y => decide (y ∈ T)) (s : Int) (castL W) (W.length : Int) (pre.length : Int)) ((x0.length : Int), castL (chainL rest T s), true) := by
  intro rest
  induction rest with
  | nil =>
    intro pre T s e hs hi ht
    obtain rfl : pre = W := by simpa using e
    refine Ev.step (fun k => by rw [impl_ChainSpace.l0]) ?_
    simp only [show ¬ ((pre.length : Int) < (pre.length : Int)) from by omega, ↓reduceIte]
    refine Ev.bind (fam_space_ev _ _) ?_
    rw [listN_of hi ht]
    exact Ev.some _
  | cons i rest ih =>
    intro pre T s e hs hI ht
    have hi : i < 7 := hW i (by rw [← e]; simp)
    have hp2 : 2 ^ i < 128 := pow_lt_128 hi
    have hsi := Nat.or_lt_two_pow (n := 7) hs hp2
    have hlen : W.length = pre.length + (rest.length + 1) := by rw [← e]; simp
    have er : rd (castL W) (pre.length : Int) = (i : Int) := by rw [← e]; exact rd_castL_mid _ _ _
    have hn := ih (pre ++ [i]) (insN (s ||| 2 ^ i) T) (s ||| 2 ^ i) (by simp [e]) hsi (inc_insN hI) (fun x hx => by
      rcases mem_insN.1 hx with rfl | hx
      · exact hsi
      · exact ht x hx)
    simp only [List.length_append, List.length_singleton] at hn
    refine Ev.step (fun k => by rw [impl_ChainSpace.l0]) ?_
    simp only [show ((pre.length : Int) < (W.length : Int)) from by omega, show (0 : Int) ≤ (pre.length : Int) from by omega, castL_length, er, show (0 : Int) ≤ (i : Int) from by omega, shl1 (show i ≤ 61 from by omega), bOr (show s < 2 ^ 62 from by omega) (show 2 ^ i < 2 ^ 62 from by omega), famN_length,
      show (0 : Int) ≤ ((s ||| 2 ^ i : Nat) : Int) from by omega, show (((s ||| 2 ^ i : Nat) : Int) < ((128 : Nat) : Int)) from by omega, show (((s ||| 2 ^ i : Nat) : Int) < 128) from by omega, Int.toNat_natCast, famN_set, ↓reduceIte]
    rw [wnext (n := W.length) (by omega) (by omega)]
    refine Ev.congr (fun k => ?_) hn
    congr 1
    apply famN_congr
    intro y _
    rw [Bool.eq_iff_iff]
    simp only [Bool.or_eq_true, decide_eq_true_eq, beq_iff_eq, mem_insN]
    exact or_comm
theorem implChain_ev (W : List Nat) (hW : ∀ i ∈ W, i < 7) (hl : W.length ≤ 7) : Ev (fun k => impl_ChainSpace.l0 k (castL W) (famN fun y => decide (y ∈ [0])) 0 (castL W) (W.length : Int) 0) ((W.length : Int), castL (chainL W [0] 0), true) := by
  have := implChain_loop W hW hl (castL W) W [] [0] 0 rfl (by omega) (by simp [Inc]) (by simp)
  rw [castL_length] at this
  exact this
theorem fam_zero : (List.replicate 128 false).set (0 : Int).toNat true = famN fun y => decide (y ∈ [0]) := by decide
end Go.Proofs.Ytnmpocdpdmkbdaa.Q
