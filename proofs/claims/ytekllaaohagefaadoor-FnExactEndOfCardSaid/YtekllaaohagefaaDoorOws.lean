/- How an argument's datum opens into the printed contracts' facts: []int, structs of int and []int, [][]int; conditions: as each theorem states. -/
import Derived.WalkKit
import Derived.ProofKit
import Derived.OpenShut
import Derived.ShutString
import Derived.ChangeOld
import Derived.ChangeSame
import Derived.Below
import Derived.SizedLaws
import Derived.Deep.Matrix
import Derived.Test.YtekllaaohagefaaDoorFam
namespace Go.Proofs.YtekllaaohagefaaDoorW.PrintOws
open Go.ChangeShapes Go.WideShapes Go.ChangeAt Go.RowKit Go.Proofs.YtekllaaohagefaaDoorW.PrintWords Go.Proofs.YtekllaaohagefaaDoorW.PrintLast Go.Proofs.YtekllaaohagefaaDoorW.PrintMore
set_option linter.unusedVariables false
set_option linter.unusedSectionVars false

/-- What is told of a slice of ints that came in. -/
def InInts (w : World) (v : Value) (l : List Int) : Prop :=
  ∃ A c, v = .slice A l.length c ∧ Kd.C (Kd.int .i64) w A l.length l ∧ l.length ≤ c ∧ l.length ≤ maxLen ∧ ∀ x ∈ l, (Lit.int .i64 x).wf = true

section
variable {H : Type} {enc : TypeId × Value → H} {P : Program} {w : World} {base : Nat} {held : Bool}

theorem in_ints {t e : TypeId} {fuel : Nat} {v : Value} {x : DataW H × List MemPlace} (ht : P.underlying t = some (.slice e)) (he : P.underlying e = some (.int .i64)) (hc : P.cellsOf e = 1)
    (h : DataW.trod enc P w base (fun _ => true) held fuel t [v] = some x) : ∃ l, InInts w v l := by
  have key : ∃ a len cap zs, v = .slice a len cap ∧ ((a = none ∧ len = 0 ∧ cap = 0 ∧ zs = []) ∨
      ∃ x, a = some x ∧ len ≤ cap ∧ cap ≤ maxLen ∧ zs.length = cap ∧ (∀ i, i < zs.length → w.cell? (x.add i) = some (.int .i64 (zs.getD i 0))) ∧ ∀ n ∈ zs, (Lit.int .i64 n).wf = true) := by
    rcases open_ints ht he hc h with ⟨hcs, _⟩ | ⟨x, l, c, zs, hcs, _, hl, hm, hz, _, hcell, hwz⟩
    · obtain rfl : v = .slice none 0 0 := by simpa using hcs
      exact ⟨none, 0, 0, [], rfl, .inl ⟨rfl, rfl, rfl, rfl⟩⟩
    · obtain rfl : v = .slice (some x) l c := by simpa using hcs
      exact ⟨some x, l, c, zs, rfl, .inr ⟨_, rfl, hl, hm, by simpa using hz, hcell, hwz⟩⟩
  obtain ⟨a, len, cap, zs, rfl, hk⟩ := key
  obtain ⟨l, rfl, hr, hm, hw, hcp⟩ := ReadsInt.ofRowC hk
  exact ⟨l, a, cap, rfl, Kd.C_of_reads (d := (0 : Int)) (h1 := fun _ => rfl) hr, hcp, hm, hw⟩

theorem in_ints_arg {t e : TypeId} {v : Value} {d : DataW H} {p : List MemPlace} (ht : P.underlying t = some (.slice e)) (he : P.underlying e = some (.int .i64)) (hc : P.cellsOf e = 1)
    {r : Reach} {b0 : Nat} (hv : Value.okWide P w r b0 t v) (h : DataW.Trod enc P w base (fun _ => true) held t v d p) : ∃ l, InInts w v l := by
  obtain ⟨a, len, cap, rfl⟩ := okWide_slice ht hv
  obtain ⟨fuel, hf⟩ := h
  exact in_ints ht he hc (v := .slice a len cap) (by simpa [Value.cells] using hf)

/-- A struct of one []int. -/
theorem in_net {t ts e : TypeId} {f0 : Field} {v : Value} {d : DataW H} {p : List MemPlace} (hs : P.underlying t = some (.struct #[f0])) (hC : P.cellsOf t = 1) (h0 : f0.offset = 0) (h1 : P.cellsOf f0.type = 1)
    (hf0 : f0.type = ts) (ht : P.underlying ts = some (.slice e)) (he : P.underlying e = some (.int .i64)) (hc : P.cellsOf e = 1)
    {r : Reach} {b0 : Nat} (hv : Value.okWide P w r b0 t v) (h : DataW.Trod enc P w base (fun _ => true) held t v d p) :
    ∃ v0 l, v = .agg #[v0] ∧ InInts w v0 l := by
  obtain ⟨cs, rfl, hsz⟩ := okWide_struct hs hv
  obtain ⟨c0, rfl⟩ : ∃ c0, cs = #[c0] := by
    have : cs.size = 1 := hsz.trans hC
    exact ⟨cs[0], by ext i h1 h2 <;> simp_all; have : i = 0 := by omega
                     subst this; rfl⟩
  obtain ⟨fuel, hf⟩ := h
  obtain ⟨y0, n, hx, _, k0⟩ := trod_struct1 hs hf
  rw [h0, h1] at k0
  subst hf0
  obtain ⟨l, hl⟩ := in_ints ht he hc (v := c0) (by simpa [Value.cells] using k0)
  exact ⟨c0, l, rfl, hl⟩

/-- A struct of an int and a []int. -/
theorem in_space {t ti ts e : TypeId} {f0 f1 : Field} {v : Value} {d : DataW H} {p : List MemPlace} (hs : P.underlying t = some (.struct #[f0, f1])) (hC : P.cellsOf t = 2)
    (h0 : f0.offset = 0) (h1 : P.cellsOf f0.type = 1) (g0 : f1.offset = 1) (g1 : P.cellsOf f1.type = 1)
    (hf0 : f0.type = ti) (hf1 : f1.type = ts) (hi : P.underlying ti = some (.int .i64)) (ht : P.underlying ts = some (.slice e)) (he : P.underlying e = some (.int .i64)) (hc : P.cellsOf e = 1)
    {r : Reach} {b0 : Nat} (hv : Value.okWide P w r b0 t v) (h : DataW.Trod enc P w base (fun _ => true) held t v d p) :
    ∃ n v1 l, v = .agg #[.int .i64 n, v1] ∧ (Lit.int .i64 n).wf = true ∧ InInts w v1 l := by
  obtain ⟨cs, rfl, hsz⟩ := okWide_struct hs hv
  obtain ⟨c0, c1, rfl⟩ : ∃ c0 c1, cs = #[c0, c1] := by
    have : cs.size = 2 := hsz.trans hC
    obtain ⟨l⟩ := cs
    match l, this with
    | [a, b], _ => exact ⟨a, b, rfl⟩
  obtain ⟨fuel, hf⟩ := h
  obtain ⟨y0, y1, n, hx, _, k0, k1⟩ := trod_struct2 hs hf
  rw [h0, h1] at k0
  rw [g0, g1] at k1
  subst hf0 hf1
  have k0' : DataW.trod enc P w base (fun _ => true) held n f0.type [c0] = some y0 := by simpa [Value.cells] using k0
  have k1' : DataW.trod enc P w base (fun _ => true) held n f1.type [c1] = some y1 := by simpa [Value.cells] using k1
  obtain ⟨m, hm, _, hw⟩ := DataW.trod_int hi k0'
  obtain rfl : c0 = .int .i64 m := by simpa using hm
  obtain ⟨l, hl⟩ := in_ints ht he hc k1'
  exact ⟨m, c1, l, rfl, hw, hl⟩

/-- What is told of a slice of slices of ints that came in. -/
def InRows (w : World) (e : TypeId) (v : Value) (l : List (List Int)) : Prop :=
  ∃ A c, v = .slice A l.length c ∧ Kd.C (Kd.slice e (Kd.int .i64)) w A l.length l ∧ l.length ≤ c ∧ l.length ≤ maxLen ∧ ∀ r ∈ l, r.length ≤ maxLen ∧ ∀ x ∈ r, (Lit.int .i64 x).wf = true

theorem in_rows {t e q : TypeId} {v : Value} {d : DataW H} {p : List MemPlace} (ht : P.underlying t = some (.slice e)) (he : P.underlying e = some (.slice q)) (hq : P.underlying q = some (.int .i64))
    (ce : P.cellsOf e = 1) (cq : P.cellsOf q = 1) {r : Reach} {b0 : Nat} (hv : Value.okWide P w r b0 t v) (h : DataW.Trod enc P w base (fun _ => true) held t v d p) :
    ∃ l, InRows w q v l := by
  obtain ⟨a, len, cap, rfl⟩ := okWide_slice ht hv
  obtain ⟨fuel, hf⟩ := h
  rcases Go.Deep.open_int_rows ht he hq ce cq hf with ⟨hcs, _⟩ | ⟨x, n, c, A, L, C, Z, hcs, _, hl, hm, _, hrow⟩
  · obtain ⟨rfl, rfl, rfl⟩ : a = none ∧ len = 0 ∧ cap = 0 := by simpa [Value.cells] using hcs
    exact ⟨[], none, 0, rfl, ⟨rfl, by simp, fun h => absurd h (Nat.lt_irrefl 0)⟩, Nat.le_refl _, by simp, by simp⟩
  · obtain ⟨rfl, rfl, rfl⟩ : a = some x ∧ len = n ∧ cap = c := by simpa [Value.cells] using hcs
    have hlen : ((List.range len).map fun r => (Z r).take (L r)).length = len := by simp
    have hml : len ≤ maxLen := Nat.le_trans hl hm
    have hrowC : ∀ r, r < len → Kd.C (Kd.int .i64) w (A r) ((Z r).take (L r)).length ((Z r).take (L r)) := by
      intro r hr
      obtain ⟨hcell, hLC, hCm, hZ, hwf, hnone, hsome⟩ := hrow r (Nat.lt_of_lt_of_le hr hl)
      have hlr : ((Z r).take (L r)).length = L r := by rw [List.length_take, hZ]; exact Nat.min_eq_left hLC
      rw [hlr]
      refine Kd.C_of_reads (d := (0 : Int)) (h1 := fun _ => rfl) ⟨hlr, by unfold maxLen at hCm; omega, fun hp => ?_⟩
      cases hA : A r with
      | none => have := hnone hA; omega
      | some a' =>
        refine ⟨a', rfl, fun j hj => ?_⟩
        rw [(hsome a' hA).2 j (by omega)]
        simp [List.getD_eq_getElem?_getD, hj]
    refine ⟨(List.range len).map fun r => (Z r).take (L r), some x, cap, by rw [hlen], ?_, by rw [hlen]; exact hl, by rw [hlen]; exact hml, ?_⟩
    · rw [hlen]
      refine ⟨hlen, by unfold maxLen at hml; omega, fun hp => ⟨x, rfl, fun j q' hj => ?_⟩⟩
      have hj' : j < len := by
        rcases Nat.lt_or_ge j len with h | h
        · exact h
        · rw [List.getElem?_eq_none (by simpa using h)] at hj; cases hj
      have hq' : q' = (Z j).take (L j) := by
        rw [List.getElem?_map, List.getElem?_range hj'] at hj
        exact (Option.some.inj hj).symm
      subst hq'
      obtain ⟨hcell, hLC, hCm, hZ, hwf, hnone, hsome⟩ := hrow j (Nat.lt_of_lt_of_le hj' hl)
      have hlr : ((Z j).take (L j)).length = L j := by rw [List.length_take, hZ]; exact Nat.min_eq_left hLC
      refine ⟨[.slice (A j) (L j) (C j)], rfl, ⟨A j, C j, by rw [hlr], by rw [hlr]; exact hLC, hrowC j hj'⟩, fun i u hu => ?_⟩
      have hi : i = 0 := by
        rcases Nat.eq_zero_or_pos i with h | h
        · exact h
        · rw [List.getElem?_eq_none (by simp; omega)] at hu; cases hu
      subst hi
      obtain rfl : Value.slice (A j) (L j) (C j) = u := by simpa using hu
      rw [show j * (Kd.slice q (Kd.int .i64)).sz + 0 = j from by show j * 1 + 0 = j; omega]
      exact hcell
    · intro r hr
      obtain ⟨j, hj, rfl⟩ := List.mem_map.1 hr
      obtain ⟨hcell, hLC, hCm, hZ, hwf, hnone, hsome⟩ := hrow j (Nat.lt_of_lt_of_le (List.mem_range.1 hj) hl)
      refine ⟨by rw [List.length_take, hZ]; exact Nat.le_trans (Nat.min_le_right _ _) hCm, fun n hn => hwf n (List.mem_of_mem_take hn)⟩
end
end Go.Proofs.YtekllaaohagefaaDoorW.PrintOws
