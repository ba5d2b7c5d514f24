/- Orders of items: when the program and the reference take a list for one; conditions: as each theorem states. -/
import Derived.Test.YtnpfkbfmipnofaaCFnExactSwapWayQNet
import Derived.Test.YtnpfkbfmipnofaaCFnExactSwapWayP5
namespace Go.Proofs.Ytnpfkbfmipnofaa.Q
open Go.RowKit Go.Proofs.YtnpfkbfmipnofaaW.PrintWords Go.Proofs.YtnpfkbfmipnofaaW.PrintLast Go.Proofs.YtnpfkbfmipnofaaW.PrintMore Go.Proofs.Ytnpfkbfmipnofaa.P
set_option linter.unusedVariables false
set_option linter.unusedSimpArgs false

theorem nodup_len : ∀ {l m : List Nat}, l.Nodup → (∀ x ∈ l, x ∈ m) → l.length ≤ m.length
  | [], _, _, _ => by simp
  | a :: t, m, hn, hs => by
    obtain ⟨h1, h2⟩ := List.nodup_cons.1 hn
    have ha : a ∈ m := hs a (by simp)
    have := nodup_len (l := t) (m := m.erase a) h2 (fun x hx => (List.mem_erase_of_ne (by rintro rfl; exact h1 hx)).2 (hs x (by simp [hx])))
    have hl := List.length_erase_of_mem ha
    have hp : 0 < m.length := List.length_pos_of_mem ha
    simp only [List.length_cons]
    omega
/-- An order of n items. -/
structure OrdN (n : Nat) (W : List Nat) : Prop where
  l1 : 1 ≤ n
  l7 : n ≤ 7
  len : W.length = n
  lt : ∀ i ∈ W, i < n
  nd : W.Nodup
theorem OrdN.cover {n : Nat} {W : List Nat} (h : OrdN n W) : ∀ i, i < n → i ∈ W := by
  intro i hi
  rcases Decidable.em (i ∈ W) with h1 | h1
  · exact h1
  · have := nodup_len (l := i :: W) (m := List.range n) (List.nodup_cons.2 ⟨h1, h.nd⟩) (fun x hx => by
      rcases List.mem_cons.1 hx with rfl | hx
      · simpa using hi
      · simpa using h.lt x hx)
    have := h.len
    simp at *
    omega
theorem castL_nodup {W : List Nat} : (castL W).Nodup ↔ W.Nodup := by
  unfold castL List.Nodup
  rw [List.pairwise_map]
  constructor <;> intro h <;> refine h.imp (fun hh => ?_)
  · intro e; exact hh (by rw [e])
  · intro e; exact hh (by omega)
end Go.Proofs.Ytnpfkbfmipnofaa.Q
