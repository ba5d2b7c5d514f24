/- Increasing lists: the reference's insertion, the program's listing of a family; conditions: as each theorem states. -/
import Derived.Test.YtekllaaohagefaaCFnExactUnionSpacesQFam
import Derived.Test.YtekllaaohagefaaCFnExactUnionSpacesQHas
import Derived.Test.YtekllaaohagefaaCFnExactUnionSpacesP5
namespace Go.Proofs.Ytekllaaohagefaa.Q
open Go.RowKit Go.Proofs.YtekllaaohagefaaW.PrintWords Go.Proofs.YtekllaaohagefaaW.PrintLast Go.Proofs.YtekllaaohagefaaW.PrintMore Go.Proofs.Ytekllaaohagefaa.P
set_option linter.unusedVariables false
set_option linter.unusedSimpArgs false

theorem inc_ext : ∀ {a b : List Nat}, Inc a → Inc b → (∀ x, x ∈ a ↔ x ∈ b) → a = b
  | [], [], _, _, _ => rfl
  | [], y :: b, _, _, h => absurd ((h y).2 (by simp)) (by simp)
  | x :: a, [], _, _, h => absurd ((h x).1 (by simp)) (by simp)
  | x :: a, y :: b, ha, hb, h => by
    have hxa : ∀ z ∈ a, x < z := fun z hz => List.rel_of_pairwise_cons ha hz
    have hyb : ∀ z ∈ b, y < z := fun z hz => List.rel_of_pairwise_cons hb hz
    have e : x = y := by
      rcases List.mem_cons.1 ((h x).1 (by simp)) with h1 | h1
      · exact h1
      · rcases List.mem_cons.1 ((h y).2 (by simp)) with h2 | h2
        · exact h2.symm
        · have := hxa y h2; have := hyb x h1; omega
    subst e
    rw [inc_ext (List.Pairwise.of_cons ha) (List.Pairwise.of_cons hb) (fun z => ?_)]
    constructor
    · intro hz
      rcases List.mem_cons.1 ((h z).1 (by simp [hz])) with h1 | h1
      · have := hxa z hz; omega
      · exact h1
    · intro hz
      rcases List.mem_cons.1 ((h z).2 (by simp [hz])) with h1 | h1
      · have := hyb z hz; omega
      · exact h1
/-- Insertion into an increasing list. -/
def insN (x : Nat) : List Nat → List Nat
  | [] => [x]
  | y :: r => if y < x then y :: insN x r else if y = x then y :: r else x :: y :: r
theorem mem_insN {x z : Nat} : ∀ {l : List Nat}, z ∈ insN x l ↔ z = x ∨ z ∈ l
  | [] => by simp [insN]
  | y :: r => by
    unfold insN
    by_cases h1 : y < x
    · simp only [h1, ↓reduceIte, List.mem_cons, mem_insN (l := r)]
      constructor
      · rintro (h | h | h)
        · exact .inr (.inl h)
        · exact .inl h
        · exact .inr (.inr h)
      · rintro (h | h | h)
        · exact .inr (.inl h)
        · exact .inl h
        · exact .inr (.inr h)
    · by_cases h2 : y = x
      · subst h2
        simp only [Nat.lt_irrefl, ↓reduceIte, List.mem_cons]
        constructor
        · exact .inr
        · rintro (h | h)
          · exact .inl h
          · exact h
      · simp only [h1, h2, ↓reduceIte, List.mem_cons]
theorem inc_insN {x : Nat} : ∀ {l : List Nat}, Inc l → Inc (insN x l)
  | [], _ => by simp [insN, Inc]
  | y :: r, h => by
    have hy : ∀ z ∈ r, y < z := fun z hz => List.rel_of_pairwise_cons h hz
    unfold insN
    by_cases h1 : y < x
    · rw [if_pos h1]
      refine List.Pairwise.cons ?_ (inc_insN (List.Pairwise.of_cons h))
      intro z hz
      rcases mem_insN.1 hz with rfl | hz
      · exact h1
      · exact hy z hz
    · rw [if_neg h1]
      by_cases h2 : y = x
      · rw [if_pos h2]; exact h
      · rw [if_neg h2]
        refine List.Pairwise.cons ?_ h
        intro z hz
        rcases List.mem_cons.1 hz with rfl | hz
        · omega
        · have := hy z hz; omega
theorem l1Put_loop (T : List Nat) (hl : T.length ≤ 1099511627776) (x : Nat) : ∀ rest pre : List Nat, pre ++ rest = T →
    Ev (fun k => spec_l1Put.l0 k (castL T) (x : Int) (pre.length : Int)) (castL (pre ++ insN x rest)) := by
  intro rest
  induction rest with
  | nil =>
    intro pre h
    obtain rfl : pre = T := by simpa using h
    refine Ev.step (fun k => by rw [spec_l1Put.l0]) ?_
    simp only [castL_length, show ¬ ((pre.length : Int) < (pre.length : Int)) from by omega, show (0 : Int) ≤ (pre.length : Int) from by omega, show (pre.length : Int) ≤ (pre.length : Int) from by omega, Option.bind_some, Int.toNat_natCast, List.length_nil, List.length_take, List.length_append, List.length_singleton, List.length_drop, Nat.min_self, ↓reduceIte]
    simp only [show 0 + pre.length < 17592186044416 from by omega, show 0 + pre.length + 1 + (pre.length - pre.length) < 17592186044416 from by omega, ↓reduceIte]
    refine (Ev.some _).eq ?_
    have e1 : (castL pre).take pre.length = castL pre := List.take_of_length_le (by simp)
    have e2 : (castL pre).drop pre.length = [] := List.drop_of_length_le (by simp)
    rw [e1, e2]
    simp [insN, castL]
  | cons y rest ih =>
    intro pre h
    have hlen : T.length = pre.length + (rest.length + 1) := by rw [← h]; simp
    have e : rd (castL T) (pre.length : Int) = (y : Int) := by rw [← h]; exact rd_castL_mid _ _ _
    have hn := ih (pre ++ [y]) (by simp [h])
    simp only [List.length_append, List.length_singleton] at hn
    refine Ev.step (fun k => by rw [spec_l1Put.l0]) ?_
    simp only [castL_length, show ((pre.length : Int) < (T.length : Int)) from by omega, show (0 : Int) ≤ (pre.length : Int) from by omega, e, ↓reduceIte]
    unfold insN
    by_cases h1 : y < x
    · simp only [show ((y : Int) < (x : Int)) from by omega, h1, ↓reduceIte]
      rw [wnext (n := T.length) (by omega) hl]
      exact hn.eq (by simp)
    · simp only [show ¬ ((y : Int) < (x : Int)) from by omega, h1, ↓reduceIte]
      by_cases h2 : y = x
      · simp only [show ((y : Int) = (x : Int)) from by omega, h2, ↓reduceIte]
        exact (Ev.some _).eq (by rw [← h, h2])
      · simp only [show ¬ ((y : Int) = (x : Int)) from by omega, h2, ↓reduceIte, show (pre.length : Int) ≤ (T.length : Int) from by omega, Option.bind_some, Int.toNat_natCast, List.length_nil, List.length_take, List.length_append, List.length_singleton, List.length_drop, castL_length, Nat.min_eq_left (show pre.length ≤ T.length from by omega)]
        simp only [show 0 + pre.length < 17592186044416 from by omega, show 0 + pre.length + 1 + (T.length - pre.length) < 17592186044416 from by omega, ↓reduceIte]
        refine (Ev.some _).eq ?_
        have e1 : (castL T).take pre.length = castL pre := by rw [← h, castL_append, List.take_left' (by simp)]
        have e2 : (castL T).drop pre.length = castL (y :: rest) := by rw [← h, castL_append, List.drop_left' (by simp)]
        rw [e1, e2]
        simp [castL]
theorem l1Put_ev (T : List Nat) (hl : T.length ≤ 1099511627776) (x : Nat) : Ev (fun k => spec_l1Put.f k (castL T) (x : Int)) (castL (insN x T)) := by
  unfold spec_l1Put.f
  simpa using l1Put_loop T hl x T [] rfl
theorem spPut_ev (T : List Nat) (hl : T.length ≤ 1099511627776) (x : Nat) : Ev (fun k => spec_spPut.f k (castL T) (x : Int)) (castL (insN x T)) := by
  unfold spec_spPut.f
  exact Ev.bind (l1Put_ev T hl x) (Ev.some _)

/-- The members of a family, in order. -/
def listN (p : Nat → Bool) : List Nat := (List.range 128).filter p
theorem mem_listN {p : Nat → Bool} {x : Nat} : x ∈ listN p ↔ x < 128 ∧ p x = true := by simp [listN]
theorem inc_range : ∀ n : Nat, Inc (List.range n)
  | 0 => List.Pairwise.nil
  | n + 1 => by
    rw [List.range_succ]
    refine List.pairwise_append.2 ⟨inc_range n, List.pairwise_singleton _ _, ?_⟩
    intro a ha b hb
    have := List.mem_range.1 ha
    have := List.mem_singleton.1 hb
    omega
theorem inc_listN (p : Nat → Bool) : Inc (listN p) := (inc_range 128).filter _
theorem fam_space_loop (p : Nat → Bool) (n : Int) : ∀ d i : Nat, i + d = 128 →
    Ev (fun k => impl_family_space.l0 k (famN p) (i : Int) n (castL ((List.range i).filter p))) (n, castL (listN p)) := by
  intro d
  induction d with
  | zero =>
    intro i h
    obtain rfl : i = 128 := by omega
    refine Ev.step (fun k => by rw [impl_family_space.l0]) ?_
    simp only [show ¬ (((128 : Nat) : Int) < 128) from by omega, ↓reduceIte]
    exact Ev.some _
  | succ d ih =>
    intro i h
    have hi : i < 128 := by omega
    have hn := ih (i + 1) (by omega)
    rw [List.range_succ, List.filter_append] at hn
    have hl : ((List.range i).filter p).length ≤ 128 := Nat.le_trans (List.length_filter_le _ _) (by simp; omega)
    refine Ev.step (fun k => by rw [impl_family_space.l0]) ?_
    simp only [show ((i : Int) < 128) from by omega, show (0 : Int) ≤ (i : Int) from by omega, famN_length, show ((i : Int) < ((128 : Nat) : Int)) from by omega, famN_get _ hi, castL_length, show ((List.range i).filter p).length < 17592186044416 from by omega, ↓reduceIte]
    rw [wnext (n := 128) hi (by omega)]
    cases hb : p i with
    | true =>
      simp only [↓reduceIte]
      rw [List.filter_cons_of_pos (by simpa using hb), List.filter_nil, castL_append] at hn
      exact hn
    | false =>
      simp only [↓reduceIte, Bool.false_eq_true]
      rw [List.filter_cons_of_neg (by simp [hb]), List.filter_nil, List.append_nil] at hn
      exact hn
theorem fam_space_ev (p : Nat → Bool) (n : Int) : Ev (fun k => impl_family_space.f k (famN p) n) (n, castL (listN p)) := by
  unfold impl_family_space.f
  simpa [castL] using fam_space_loop p n 128 0 rfl
end Go.Proofs.Ytekllaaohagefaa.Q
