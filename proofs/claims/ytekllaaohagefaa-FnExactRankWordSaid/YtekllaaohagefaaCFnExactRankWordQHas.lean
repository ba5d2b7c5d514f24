/- The reference's search in an increasing list; conditions: as each theorem states. -/
import Derived.Test.YtekllaaohagefaaCFnExactRankWordQ0
import Derived.Test.YtekllaaohagefaaCFnExactRankWordP4
namespace Go.Proofs.Ytekllaaohagefaa.Q
open Go.RowKit Go.Proofs.YtekllaaohagefaaW.PrintWords Go.Proofs.YtekllaaohagefaaW.PrintLast Go.Proofs.YtekllaaohagefaaW.PrintMore Go.Proofs.Ytekllaaohagefaa.P
set_option linter.unusedVariables false
set_option linter.unusedSimpArgs false

/-- Strictly increasing. -/
def Inc (T : List Nat) : Prop := T.Pairwise (· < ·)
theorem Inc.get {T : List Nat} (h : Inc T) {i j : Nat} (hij : i < j) (hj : j < T.length) : T[i]'(by omega) < T[j] :=
  List.pairwise_iff_getElem.1 h i j (by omega) hj hij

theorem spHas_loop {T : List Nat} (hT : Inc T) (hl : T.length ≤ 1099511627776) (x : Int) (d : Nat) : ∀ lo hi : Nat, hi - lo ≤ d → lo ≤ hi → hi ≤ T.length →
    (∀ i, i < lo → ∀ h : i < T.length, (T[i] : Int) < x) → (∀ i, hi ≤ i → ∀ h : i < T.length, x ≤ (T[i] : Int)) →
    Ev (fun k => spec_spHas.l0 k (castL T) x (lo : Int) (hi : Int)) (decide (x ∈ castL T)) := by
  induction d with
  | zero =>
    intro lo hi hd h1 h2 ha hb
    obtain rfl : lo = hi := by omega
    refine Ev.step (fun k => by rw [spec_spHas.l0]) ?_
    simp only [show ¬ ((lo : Int) < (lo : Int)) from by omega, castL_length, show (0 : Int) ≤ (lo : Int) from by omega, ↓reduceIte]
    by_cases hlt : lo < T.length
    · simp only [show ((lo : Int) < (T.length : Int)) from by omega, ↓reduceIte]
      have e : rd (castL T) (lo : Int) = (T[lo] : Int) := by rw [rd_nat _ _ (by simpa using hlt)]; simp [castL]
      rw [e]
      refine (Ev.some _).eq ?_
      by_cases hx : (T[lo] : Int) = x
      · have : x ∈ castL T := by rw [← hx]; exact mem_castL.2 (List.getElem_mem _)
        simp [hx, this]
      · have : x ∉ castL T := by
          intro hm
          obtain ⟨y, hy, rfl⟩ := List.mem_map.1 hm
          obtain ⟨i, hi, rfl⟩ := List.getElem_of_mem hy
          rcases Nat.lt_trichotomy i lo with h | h | h
          · have := ha i h hi; omega
          · subst h; exact hx rfl
          · have := hb lo (Nat.le_refl _) hlt
            have := hT.get h hi
            omega
        simp [hx, this]
    · simp only [show ¬ ((lo : Int) < (T.length : Int)) from by omega, ↓reduceIte]
      refine (Ev.some _).eq ?_
      have : x ∉ castL T := by
        intro hm
        obtain ⟨y, hy, rfl⟩ := List.mem_map.1 hm
        obtain ⟨i, hi, rfl⟩ := List.getElem_of_mem hy
        have := ha i (by omega) hi; omega
      simp [this]
  | succ d ih =>
    intro lo hi hd h1 h2 ha hb
    by_cases hlt : lo < hi
    · have e : wrap64 (Int.tdiv (wrap64 ((lo : Int) + (hi : Int))) 2) = (((lo + hi) / 2 : Nat) : Int) := by
        rw [w64 (x := (lo : Int) + hi) (by omega) (by omega), Int.tdiv_eq_ediv_of_nonneg (by omega), w64 (by omega) (by omega)]; omega
      have hm1 : (lo + hi) / 2 < T.length := by omega
      have e2 : rd (castL T) (((lo + hi) / 2 : Nat) : Int) = (T[(lo + hi) / 2] : Int) := by rw [rd_nat _ _ (by simpa using hm1)]; simp [castL]
      refine Ev.step (fun k => by rw [spec_spHas.l0]) ?_
      simp only [show ((lo : Int) < (hi : Int)) from by omega, e, e2, castL_length, show (0 : Int) ≤ (((lo + hi) / 2 : Nat) : Int) from by omega, show (((lo + hi) / 2 : Nat) : Int) < (T.length : Int) from by omega, ↓reduceIte]
      by_cases hx : (T[(lo + hi) / 2] : Int) < x
      · simp only [hx, ↓reduceIte]
        rw [w64 (by omega) (by omega), show (((lo + hi) / 2 : Nat) : Int) + 1 = (((lo + hi) / 2 + 1 : Nat) : Int) from by omega]
        refine ih ((lo + hi) / 2 + 1) hi (by omega) (by omega) h2 (fun i hi' h => ?_) hb
        rcases Nat.lt_or_ge i ((lo + hi) / 2) with h' | h'
        · have := hT.get h' hm1; omega
        · obtain rfl : i = (lo + hi) / 2 := by omega
          exact hx
      · simp only [hx, ↓reduceIte]
        refine ih lo ((lo + hi) / 2) (by omega) (by omega) (by omega) ha (fun i hi' h => ?_)
        rcases Nat.lt_or_ge ((lo + hi) / 2) i with h' | h'
        · have := hT.get h' h; omega
        · obtain rfl : i = (lo + hi) / 2 := by omega
          omega
    · exact ih lo hi (by omega) h1 h2 ha hb
theorem spHas_int {T : List Nat} (hT : Inc T) (hl : T.length ≤ 1099511627776) (x : Int) : Ev (fun k => spec_spHas.f k (castL T) x) (decide (x ∈ castL T)) := by
  unfold spec_spHas.f
  have h := spHas_loop hT hl x T.length 0 T.length (by omega) (by omega) (by omega) (fun i h => by omega) (fun i h h' => by omega)
  simpa using h
theorem spHas_ev {T : List Nat} (hT : Inc T) (hl : T.length ≤ 1099511627776) (x : Nat) : Ev (fun k => spec_spHas.f k (castL T) (x : Int)) (decide (x ∈ T)) :=
  (spHas_int hT hl x).eq (by simp [mem_castL])
end Go.Proofs.Ytekllaaohagefaa.Q
