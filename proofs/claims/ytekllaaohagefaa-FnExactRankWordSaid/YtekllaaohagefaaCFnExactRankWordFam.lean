/- Words of this session for pointers to an array of 128 bools: the array is told by the fact of a slice twin; conditions: none. -/
import Derived.Test.YtekllaaohagefaaCFnExactRankWordWWords
import Derived.Test.YtekllaaohagefaaCFnExactRankWordWLast
import Derived.Test.YtekllaaohagefaaCFnExactRankWordWMore
import Derived.Test.YtekllaaohagefaaCFnExactRankWordWNEv
namespace Go.Proofs.YtekllaaohagefaaW.PrintMore
open Go.RowKit Go.Proofs.YtekllaaohagefaaW.PrintWords Go.Proofs.YtekllaaohagefaaW.PrintLast

/-- The pointer that goes with a slice: its address. -/
def asP : Value → Value
  | .slice a _ _ => .pointer a
  | v => v
@[go_sem, simp] theorem asP_slice (a : Option Addr) (n c : Nat) : asP (.slice a n c) = .pointer a := rfl

@[go_sem, simp] theorem isNone_some_ {α : Type} (a : α) : (some a).isNone = false := rfl

/-- The zero value of the array. -/
def famZ : Value := .agg (Array.replicate 128 (.bool false))

section
variable {P : Program} {ops : Array Oper} {rest : List Oper} {o : Oper} {a : Act} {Q : Exit → Act → World → Prop} {W : World}

theorem fam_build (t : TypeId) (hgd : o.guard = none) {N : Tmp} (_hd : o.dst = some N) (ho : o.op = .build t #[])
    (hz : ∀ W1 : World, (Instr.build t #[]).run P W1 = .ok famZ W1)
    (h : wpList P ops Q rest (a.put o.dst famZ) W) : wpList P ops Q (o :: rest) a W := by
  refine Kd.event_run hgd (w1 := W) (v := famZ) ?_ h
  simp [execOp, ho, hz]

theorem fam_new {w0 : World} (base e : Nat) (hgd : o.guard = none) {N : Tmp} (_hd : o.dst = some N) (x : Operand) (ho : o.op = .box e x)
    (hx : a.eval x = famZ) (HB : Below base w0 W) (hbase : base ≤ W.heap.size)
    (h : ∀ v1 w1, Kd.bool.R e w1 base (fun _ => True) v1 (List.replicate 128 false) → Below base w0 w1 → W.grownBy w1 none →
      (∃ b, v1.ownBlock = some b ∧ W.heap.size ≤ b) → wpList P ops Q rest (a.put o.dst (asP v1)) w1) : wpList P ops Q (o :: rest) a W := by
  have hrun : (execOp a.eval o).run P W = .ok (.value (.pointer (some ⟨W.heap.size, 0, none⟩))) (W.alloc (.cells (Array.replicate 128 (.bool false)) e (0, 0))) := by
    simp only [execOp, ho, hx]
    simp [Instr.box, newVar, newRow, go_sem]
    rfl
  refine Kd.event_run hgd hrun ?_
  refine h (.slice (some ⟨W.heap.size, 0, none⟩) 128 128) _ ⟨fun _ _ => trivial, (List.replicate 128 (Value.bool false)), ?_, ?_⟩ (HB.alloc hbase _) (World.grownBy_alloc W _ none) ⟨W.heap.size, by simp [Value.ownBlock], Nat.le_refl _⟩
  · have h2 := World.ownsRow_lit (base := base) (e := e) (size := 1) W (Array.replicate 128 (.bool false)) 128 hbase (by simp [maxLen]) (by simp)
    have h3 : (Array.replicate 128 (Value.bool false)).toList = List.replicate 128 (.bool false) := by simp
    rw [h3] at h2
    exact h2
  · refine ⟨by simp [Kd.bool, Kd.scalar], fun j p hj => ?_⟩
    have hp : p = false := by
      have := List.mem_of_getElem? hj
      exact (List.mem_replicate.1 this).2
    subst hp
    have hj' : j < 128 := by
      rcases Nat.lt_or_ge j 128 with h | h
      · exact h
      · rw [List.getElem?_eq_none (by simpa using h)] at hj; cases hj
    show List.take 1 (List.drop (j * 1) (List.replicate 128 (Value.bool false))) = [Value.bool false]
    rw [Nat.mul_one, List.drop_replicate, List.take_replicate, Nat.min_eq_left (by omega)]
    rfl

end
end Go.Proofs.YtekllaaohagefaaW.PrintMore
namespace Go.Proofs.YtekllaaohagefaaW.PrintMore
open Go.RowKit Go.Proofs.YtekllaaohagefaaW.PrintWords Go.Proofs.YtekllaaohagefaaW.PrintLast
end Go.Proofs.YtekllaaohagefaaW.PrintMore
namespace Go.Proofs.YtekllaaohagefaaW.PrintWords.Kd
open Go.RowKit Go.Proofs.YtekllaaohagefaaW.PrintLast
end Go.Proofs.YtekllaaohagefaaW.PrintWords.Kd
namespace Go.Proofs.YtekllaaohagefaaW.PrintWords.Kd
open Go.RowKit Go.Proofs.YtekllaaohagefaaW.PrintLast Go.Proofs.YtekllaaohagefaaW.PrintMore
/-- An element that is a pointer to an array: its one cell is the address that goes with a slice twin. -/
def arrp {α : Type} (e : Nat) (d : Kd α) : Kd (List α) where
  sz := 1
  E := e :: d.E
  K := fun w xs cs => ∃ A c, cs = [.pointer A] ∧ xs.length ≤ c ∧ d.C w A xs.length xs
  M := fun w base ok xs cs => ∃ v, cs = [asP v] ∧ d.R e w base ok v xs
  K_len := by
    rintro w x cs ⟨A, c, rfl, _⟩
    rfl
  K_one := by
    rintro w x cs ⟨A, c, rfl, _⟩ u hu
    rw [List.mem_singleton.1 hu]
    rfl
  K_below := by
    rintro w w1 x cs hb ⟨A, c, rfl, hl, hr⟩
    exact ⟨A, c, rfl, hl, C_below hr hb⟩
  K_of_M := by
    rintro w base ok x cs ⟨v, rfl, h⟩
    obtain ⟨A, c, rfl, hl, hr⟩ := R_reads h
    exact ⟨A, c, rfl, hl, hr⟩
  M_mono := by
    rintro w base ok ok' x cs hok ⟨v, rfl, h⟩
    exact ⟨v, rfl, R_mono h hok⟩
  M_bound := by
    rintro w base ok x cs ⟨v, rfl, h⟩
    exact ⟨v, rfl, R_bound h⟩
  M_move := by
    rintro w w1 base ok x cs hm ⟨v, rfl, h⟩
    exact ⟨v, rfl, R_move h hm⟩
  M_lower := by
    rintro w base base' ok x cs hb ⟨v, rfl, h⟩
    exact ⟨v, rfl, R_lower h hb⟩
end Go.Proofs.YtekllaaohagefaaW.PrintWords.Kd
