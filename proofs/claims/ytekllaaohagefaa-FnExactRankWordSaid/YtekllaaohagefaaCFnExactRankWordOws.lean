/- How an argument's datum opens into the printed contracts' facts: []int, structs of int and []int, [][]int; conditions: as each theorem states. -/
import Derived.WalkKit
import Derived.ProofKit
import Derived.OpenShut
import Derived.ShutString
import Derived.ChangeOld
import Derived.ChangeSame
import Derived.Below
import Derived.SizedLaws
import Derived.Deep.Matrix
import Derived.Test.YtekllaaohagefaaCFnExactRankWordFam
namespace Go.Proofs.YtekllaaohagefaaW.PrintOws
open Go.ChangeShapes Go.WideShapes Go.ChangeAt Go.RowKit Go.Proofs.YtekllaaohagefaaW.PrintWords Go.Proofs.YtekllaaohagefaaW.PrintLast Go.Proofs.YtekllaaohagefaaW.PrintMore
set_option linter.unusedVariables false
set_option linter.unusedSectionVars false

/-- What is told of a slice of ints that came in. -/
def InInts (w : World) (v : Value) (l : List Int) : Prop :=
  ∃ A c, v = .slice A l.length c ∧ Kd.C (Kd.int .i64) w A l.length l ∧ l.length ≤ c ∧ l.length ≤ maxLen ∧ ∀ x ∈ l, (Lit.int .i64 x).wf = true

section
variable {H : Type} {enc : TypeId × Value → H} {P : Program} {w : World} {base : Nat} {held : Bool}

theorem in_ints {t e : TypeId} {fuel : Nat} {v : Value} {x : DataW H × List MemPlace} (ht : P.underlying t = some (.slice e)) (he : P.underlying e = some (.int .i64)) (hc : P.cellsOf e = 1)
    (h : DataW.trod enc P w base (fun _ => true) held fuel t [v] = some x) : ∃ l, InInts w v l := by
  have key : ∃ a len cap zs, v = .slice a len cap ∧ ((a = none ∧ len = 0 ∧ cap = 0 ∧ zs = []) ∨
      ∃ x, a = some x ∧ len ≤ cap ∧ cap ≤ maxLen ∧ zs.length = cap ∧ (∀ i, i < zs.length → w.cell? (x.add i) = some (.int .i64 (zs.getD i 0))) ∧ ∀ n ∈ zs, (Lit.int .i64 n).wf = true) := by
    rcases open_ints ht he hc h with ⟨hcs, _⟩ | ⟨x, l, c, zs, hcs, _, hl, hm, hz, _, hcell, hwz⟩
    · obtain rfl : v = .slice none 0 0 := by simpa using hcs
      exact ⟨none, 0, 0, [], rfl, .inl ⟨rfl, rfl, rfl, rfl⟩⟩
    · obtain rfl : v = .slice (some x) l c := by simpa using hcs
      exact ⟨some x, l, c, zs, rfl, .inr ⟨_, rfl, hl, hm, by simpa using hz, hcell, hwz⟩⟩
  obtain ⟨a, len, cap, zs, rfl, hk⟩ := key
  obtain ⟨l, rfl, hr, hm, hw, hcp⟩ := ReadsInt.ofRowC hk
  exact ⟨l, a, cap, rfl, Kd.C_of_reads (d := (0 : Int)) (h1 := fun _ => rfl) hr, hcp, hm, hw⟩

theorem in_ints_arg {t e : TypeId} {v : Value} {d : DataW H} {p : List MemPlace} (ht : P.underlying t = some (.slice e)) (he : P.underlying e = some (.int .i64)) (hc : P.cellsOf e = 1)
    {r : Reach} {b0 : Nat} (hv : Value.okWide P w r b0 t v) (h : DataW.Trod enc P w base (fun _ => true) held t v d p) : ∃ l, InInts w v l := by
  obtain ⟨a, len, cap, rfl⟩ := okWide_slice ht hv
  obtain ⟨fuel, hf⟩ := h
  exact in_ints ht he hc (v := .slice a len cap) (by simpa [Value.cells] using hf)

/-- A struct of an int and a []int. -/
theorem in_space {t ti ts e : TypeId} {f0 f1 : Field} {v : Value} {d : DataW H} {p : List MemPlace} (hs : P.underlying t = some (.struct #[f0, f1])) (hC : P.cellsOf t = 2)
    (h0 : f0.offset = 0) (h1 : P.cellsOf f0.type = 1) (g0 : f1.offset = 1) (g1 : P.cellsOf f1.type = 1)
    (hf0 : f0.type = ti) (hf1 : f1.type = ts) (hi : P.underlying ti = some (.int .i64)) (ht : P.underlying ts = some (.slice e)) (he : P.underlying e = some (.int .i64)) (hc : P.cellsOf e = 1)
    {r : Reach} {b0 : Nat} (hv : Value.okWide P w r b0 t v) (h : DataW.Trod enc P w base (fun _ => true) held t v d p) :
    ∃ n v1 l, v = .agg #[.int .i64 n, v1] ∧ (Lit.int .i64 n).wf = true ∧ InInts w v1 l := by
  obtain ⟨cs, rfl, hsz⟩ := okWide_struct hs hv
  obtain ⟨c0, c1, rfl⟩ : ∃ c0 c1, cs = #[c0, c1] := by
    have : cs.size = 2 := hsz.trans hC
    obtain ⟨l⟩ := cs
    match l, this with
    | [a, b], _ => exact ⟨a, b, rfl⟩
  obtain ⟨fuel, hf⟩ := h
  obtain ⟨y0, y1, n, hx, _, k0, k1⟩ := trod_struct2 hs hf
  rw [h0, h1] at k0
  rw [g0, g1] at k1
  subst hf0 hf1
  have k0' : DataW.trod enc P w base (fun _ => true) held n f0.type [c0] = some y0 := by simpa [Value.cells] using k0
  have k1' : DataW.trod enc P w base (fun _ => true) held n f1.type [c1] = some y1 := by simpa [Value.cells] using k1
  obtain ⟨m, hm, _, hw⟩ := DataW.trod_int hi k0'
  obtain rfl : c0 = .int .i64 m := by simpa using hm
  obtain ⟨l, hl⟩ := in_ints ht he hc k1'
  exact ⟨m, c1, l, rfl, hw, hl⟩

end
end Go.Proofs.YtekllaaohagefaaW.PrintOws
