/- How an argument's datum opens into the printed contracts' facts: []int, structs of int and []int, [][]int; conditions: as each theorem states. -/
import Derived.WalkKit
import Derived.ProofKit
import Derived.OpenShut
import Derived.ShutString
import Derived.ChangeOld
import Derived.ChangeSame
import Derived.Below
import Derived.SizedLaws
import Derived.Deep.Matrix
import Derived.Test.YtekllaaohagefaaCFnExactEndsSpaceFam
namespace Go.Proofs.YtekllaaohagefaaW.PrintOws
open Go.ChangeShapes Go.WideShapes Go.ChangeAt Go.RowKit Go.Proofs.YtekllaaohagefaaW.PrintWords Go.Proofs.YtekllaaohagefaaW.PrintLast Go.Proofs.YtekllaaohagefaaW.PrintMore
set_option linter.unusedVariables false
set_option linter.unusedSectionVars false

section
variable {H : Type} {enc : TypeId × Value → H} {P : Program} {w : World} {base : Nat} {held : Bool}

/-- What is told of a slice of slices of ints that came in. -/
def InRows (w : World) (e : TypeId) (v : Value) (l : List (List Int)) : Prop :=
  ∃ A c, v = .slice A l.length c ∧ Kd.C (Kd.slice e (Kd.int .i64)) w A l.length l ∧ l.length ≤ c ∧ l.length ≤ maxLen ∧ ∀ r ∈ l, r.length ≤ maxLen ∧ ∀ x ∈ r, (Lit.int .i64 x).wf = true

theorem in_rows {t e q : TypeId} {v : Value} {d : DataW H} {p : List MemPlace} (ht : P.underlying t = some (.slice e)) (he : P.underlying e = some (.slice q)) (hq : P.underlying q = some (.int .i64))
    (ce : P.cellsOf e = 1) (cq : P.cellsOf q = 1) {r : Reach} {b0 : Nat} (hv : Value.okWide P w r b0 t v) (h : DataW.Trod enc P w base (fun _ => true) held t v d p) :
    ∃ l, InRows w q v l := by
  obtain ⟨a, len, cap, rfl⟩ := okWide_slice ht hv
  obtain ⟨fuel, hf⟩ := h
  rcases Go.Deep.open_int_rows ht he hq ce cq hf with ⟨hcs, _⟩ | ⟨x, n, c, A, L, C, Z, hcs, _, hl, hm, _, hrow⟩
  · obtain ⟨rfl, rfl, rfl⟩ : a = none ∧ len = 0 ∧ cap = 0 := by simpa [Value.cells] using hcs
    exact ⟨[], none, 0, rfl, ⟨rfl, by simp, fun h => absurd h (Nat.lt_irrefl 0)⟩, Nat.le_refl _, by simp, by simp⟩
  · obtain ⟨rfl, rfl, rfl⟩ : a = some x ∧ len = n ∧ cap = c := by simpa [Value.cells] using hcs
    have hlen : ((List.range len).map fun r => (Z r).take (L r)).length = len := by simp
    have hml : len ≤ maxLen := Nat.le_trans hl hm
    have hrowC : ∀ r, r < len → Kd.C (Kd.int .i64) w (A r) ((Z r).take (L r)).length ((Z r).take (L r)) := by
      intro r hr
      obtain ⟨hcell, hLC, hCm, hZ, hwf, hnone, hsome⟩ := hrow r (Nat.lt_of_lt_of_le hr hl)
      have hlr : ((Z r).take (L r)).length = L r := by rw [List.length_take, hZ]; exact Nat.min_eq_left hLC
      rw [hlr]
      refine Kd.C_of_reads (d := (0 : Int)) (h1 := fun _ => rfl) ⟨hlr, by unfold maxLen at hCm; omega, fun hp => ?_⟩
      cases hA : A r with
      | none => have := hnone hA; omega
      | some a' =>
        refine ⟨a', rfl, fun j hj => ?_⟩
        rw [(hsome a' hA).2 j (by omega)]
        simp [List.getD_eq_getElem?_getD, hj]
    refine ⟨(List.range len).map fun r => (Z r).take (L r), some x, cap, by rw [hlen], ?_, by rw [hlen]; exact hl, by rw [hlen]; exact hml, ?_⟩
    · rw [hlen]
      refine ⟨hlen, by unfold maxLen at hml; omega, fun hp => ⟨x, rfl, fun j q' hj => ?_⟩⟩
      have hj' : j < len := by
        rcases Nat.lt_or_ge j len with h | h
        · exact h
        · rw [List.getElem?_eq_none (by simpa using h)] at hj; cases hj
      have hq' : q' = (Z j).take (L j) := by
        rw [List.getElem?_map, List.getElem?_range hj'] at hj
        exact (Option.some.inj hj).symm
      subst hq'
      obtain ⟨hcell, hLC, hCm, hZ, hwf, hnone, hsome⟩ := hrow j (Nat.lt_of_lt_of_le hj' hl)
      have hlr : ((Z j).take (L j)).length = L j := by rw [List.length_take, hZ]; exact Nat.min_eq_left hLC
      refine ⟨[.slice (A j) (L j) (C j)], rfl, ⟨A j, C j, by rw [hlr], by rw [hlr]; exact hLC, hrowC j hj'⟩, fun i u hu => ?_⟩
      have hi : i = 0 := by
        rcases Nat.eq_zero_or_pos i with h | h
        · exact h
        · rw [List.getElem?_eq_none (by simp; omega)] at hu; cases hu
      subst hi
      obtain rfl : Value.slice (A j) (L j) (C j) = u := by simpa using hu
      rw [show j * (Kd.slice q (Kd.int .i64)).sz + 0 = j from by show j * 1 + 0 = j; omega]
      exact hcell
    · intro r hr
      obtain ⟨j, hj, rfl⟩ := List.mem_map.1 hr
      obtain ⟨hcell, hLC, hCm, hZ, hwf, hnone, hsome⟩ := hrow j (Nat.lt_of_lt_of_le (List.mem_range.1 hj) hl)
      refine ⟨by rw [List.length_take, hZ]; exact Nat.le_trans (Nat.min_le_right _ _) hCm, fun n hn => hwf n (List.mem_of_mem_take hn)⟩
end
end Go.Proofs.YtekllaaohagefaaW.PrintOws
