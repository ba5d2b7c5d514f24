/- Words of this session for pointers to an array of 128 bools: the array is told by the fact of a slice twin; conditions: none. -/
import Derived.Test.YtekllaaohagefaaDoorWWords
import Derived.Test.YtekllaaohagefaaDoorWLast
import Derived.Test.YtekllaaohagefaaDoorWMore
import Derived.Test.YtekllaaohagefaaDoorWNEv
namespace Go.Proofs.YtekllaaohagefaaDoorW.PrintMore
open Go.RowKit Go.Proofs.YtekllaaohagefaaDoorW.PrintWords Go.Proofs.YtekllaaohagefaaDoorW.PrintLast

/-- The pointer that goes with a slice: its address. -/
def asP : Value → Value
  | .slice a _ _ => .pointer a
  | v => v
@[go_sem, simp] theorem asP_slice (a : Option Addr) (n c : Nat) : asP (.slice a n c) = .pointer a := rfl

/-- Is a slice nil: the walk's test. -/
@[go_sem, simp] theorem isNone_none_ {α : Type} : (none : Option α).isNone = true := rfl
@[go_sem, simp] theorem isNone_some_ {α : Type} (a : α) : (some a).isNone = false := rfl

/-- The zero value of the array. -/
def famZ : Value := .agg (Array.replicate 128 (.bool false))

section
variable {P : Program} {ops : Array Oper} {rest : List Oper} {o : Oper} {a : Act} {Q : Exit → Act → World → Prop} {W : World}

theorem fam_build (t : TypeId) (hgd : o.guard = none) {N : Tmp} (_hd : o.dst = some N) (ho : o.op = .build t #[])
    (hz : ∀ W1 : World, (Instr.build t #[]).run P W1 = .ok famZ W1)
    (h : wpList P ops Q rest (a.put o.dst famZ) W) : wpList P ops Q (o :: rest) a W := by
  refine Kd.event_run hgd (w1 := W) (v := famZ) ?_ h
  simp [execOp, ho, hz]

theorem fam_new {w0 : World} (base e : Nat) (hgd : o.guard = none) {N : Tmp} (_hd : o.dst = some N) (x : Operand) (ho : o.op = .box e x)
    (hx : a.eval x = famZ) (HB : Below base w0 W) (hbase : base ≤ W.heap.size)
    (h : ∀ v1 w1, Kd.bool.R e w1 base (fun _ => True) v1 (List.replicate 128 false) → Below base w0 w1 → W.grownBy w1 none →
      (∃ b, v1.ownBlock = some b ∧ W.heap.size ≤ b) → wpList P ops Q rest (a.put o.dst (asP v1)) w1) : wpList P ops Q (o :: rest) a W := by
  have hrun : (execOp a.eval o).run P W = .ok (.value (.pointer (some ⟨W.heap.size, 0, none⟩))) (W.alloc (.cells (Array.replicate 128 (.bool false)) e (0, 0))) := by
    simp only [execOp, ho, hx]
    simp [Instr.box, newVar, newRow, go_sem]
    rfl
  refine Kd.event_run hgd hrun ?_
  refine h (.slice (some ⟨W.heap.size, 0, none⟩) 128 128) _ ⟨fun _ _ => trivial, (List.replicate 128 (Value.bool false)), ?_, ?_⟩ (HB.alloc hbase _) (World.grownBy_alloc W _ none) ⟨W.heap.size, by simp [Value.ownBlock], Nat.le_refl _⟩
  · have h2 := World.ownsRow_lit (base := base) (e := e) (size := 1) W (Array.replicate 128 (.bool false)) 128 hbase (by simp [maxLen]) (by simp)
    have h3 : (Array.replicate 128 (Value.bool false)).toList = List.replicate 128 (.bool false) := by simp
    rw [h3] at h2
    exact h2
  · refine ⟨by simp [Kd.bool, Kd.scalar], fun j p hj => ?_⟩
    have hp : p = false := by
      have := List.mem_of_getElem? hj
      exact (List.mem_replicate.1 this).2
    subst hp
    have hj' : j < 128 := by
      rcases Nat.lt_or_ge j 128 with h | h
      · exact h
      · rw [List.getElem?_eq_none (by simpa using h)] at hj; cases hj
    show List.take 1 (List.drop (j * 1) (List.replicate 128 (Value.bool false))) = [Value.bool false]
    rw [Nat.mul_one, List.drop_replicate, List.take_replicate, Nat.min_eq_left (by omega)]
    rfl

/-- More is known from here on (a row that the region itself has made is read in it). -/
theorem more_ {P : Program} {ops : Array Oper} {Q : Exit → Act → World → Prop} {md : Region.Mode} {S S' : World → Prop} (hi : ∀ w, S' w → S w) :
    ∀ {fuel : Nat} {l : Array Bool} {a : Act} {w : World}, S' w → (S' w → wpAnyLast P md ops Q S' [] fuel l a w) → wpAnyLast P md ops Q S [] fuel l a w
  | 0, _, _, _, hS, h => h hS
  | fuel + 1, _, _, _, hS, h => ⟨(h hS).1, fun i hj => wpOp_mono (fun a' w' h' => ⟨fun _ _ => hi _ (h'.1 (by simp) hS), more_ hi (h'.1 (by simp) hS) (fun _ => h'.2)⟩) ((h hS).2 i hj)⟩
/-- A variable that a closure catches: a row of one element, by its address. -/
theorem box_R {P : Program} {ops : Array Oper} {rest : List Oper} {o : Oper} {a : Act} {Q : Exit → Act → World → Prop} {α : Type} (d : Kd α) {w0 W : World} (base e : Nat) (hgd : o.guard = none) {N : Tmp} (_hd : o.dst = some N) {xs : List α} {inner : List Value} {ok okp : Nat → Prop}
    (hrun : (execOp a.eval o).run P W = .ok (.value (.pointer (some ⟨W.heap.size, 0, none⟩))) (W.alloc (.cells inner.toArray e)))
    (hrep : Reps (d.M W base okp) d.sz xs inner) (hok : ∀ k, okp k → ok k) (hfresh : ok W.heap.size) (HB : Below base w0 W) (hbase : base ≤ W.heap.size) (hm : xs.length ≤ 9223372036854775807)
    (h : ∀ v1 w1, d.R e w1 base ok v1 xs → Below base w0 w1 → W.grownBy w1 none → (∃ b, v1.ownBlock = some b ∧ W.heap.size ≤ b) → wpList P ops Q rest (a.put o.dst (asP v1)) w1) : wpList P ops Q (o :: rest) a W := by
  refine Kd.event_run hgd hrun (h (.slice (some ⟨W.heap.size, 0, none⟩) xs.length xs.length) _ ⟨fun k hk => ?_, inner, ?_, ?_⟩ (HB.alloc hbase _) (World.grownBy_alloc W _ none) ⟨W.heap.size, by simp [Value.ownBlock], Nat.le_refl _⟩)
  · have : W.heap.size = k := by simpa [Value.ownBlock] using hk
    subst this
    exact hfresh
  · have h2 := World.ownsRow_lit (base := base) (e := e) (size := d.sz) W inner.toArray xs.length hbase (by simpa [maxLen] using hm) (by simpa using hrep.1)
    simpa using h2
  · refine hrep.imp_ (fun p c hp => d.M_mono (fun k hk => ⟨hok k hk.1, fun he => ?_⟩) (Kd.M_below (d.M_bound hp) (below_alloc (Below.refl _ _) _)))
    have h3 : k = W.heap.size := by simpa [Value.ownBlock] using he
    have := hk.2.2.1
    omega
open Go.Proofs.YtekllaaohagefaaDoorW.PrintWords.Kd in
/-- The same, of an element that leads to what came in. -/
theorem box_N {P : Program} {ops : Array Oper} {rest : List Oper} {o : Oper} {a : Act} {Q : Exit → Act → World → Prop} {α : Type} (d : Kd α) {w0 W : World} (base e : Nat) (hgd : o.guard = none) {N' : Tmp} (_hd : o.dst = some N') {xs : List α} {inner : List Value} {ok okp : Nat → Prop}
    (hrun : (execOp a.eval o).run P W = .ok (.value (.pointer (some ⟨W.heap.size, 0, none⟩))) (W.alloc (.cells inner.toArray e)))
    (hrep : Reps (FK d W okp) d.sz xs inner) (hok : ∀ k, okp k → ok k) (hfresh : ok W.heap.size) (HB : Below base w0 W) (hbase : base ≤ W.heap.size) (hm : xs.length ≤ 9223372036854775807)
    (h : ∀ v1 w1, N d e w1 base ok v1 xs → Below base w0 w1 → W.grownBy w1 none → (∃ b, v1.ownBlock = some b ∧ W.heap.size ≤ b) → wpList P ops Q rest (a.put o.dst (asP v1)) w1) :
    wpList P ops Q (o :: rest) a W := by
  refine box_R (raw d.sz) base e hgd _hd (xs := chunks d.sz xs.length inner) (inner := inner) (ok := fun k => k = W.heap.size) (okp := fun _ => False) hrun (reps_raw hrep (fun y c hk => ⟨d.K_len (FK_now hk), d.K_one (FK_now hk)⟩)) (fun _ hk => hk.elim) rfl HB hbase (by rw [chunks_length]; exact hm) ?_
  intro v1 w1 hr hb hg hat
  exact h v1 w1 (N_made hr hg hat (chunks_length _ _ _) (fun j y c hy hc => by rw [chunks_get hc]; exact hrep.2 j y hy) hok hfresh) hb hg hat
open Go.Proofs.YtekllaaohagefaaDoorW.PrintWords.Kd in
/-- The same, of an element that is a row to come. -/
theorem box_S {P : Program} {ops : Array Oper} {rest : List Oper} {o : Oper} {a : Act} {Q : Exit → Act → World → Prop} {α : Type} (d : Kd α) {w0 W : World} (base e : Nat) (hgd : o.guard = none) {N : Tmp} (_hd : o.dst = some N) {xs : List α} {inner : List Value} {ok okp : Nat → Prop}
    (hrun : (execOp a.eval o).run P W = .ok (.value (.pointer (some ⟨W.heap.size, 0, none⟩))) (W.alloc (.cells inner.toArray e)))
    (hrep : Reps (d.M W base (fun _ => False)) d.sz xs inner) (_hok : ∀ k, okp k → ok k) (hfresh : ok W.heap.size) (HB : Below base w0 W) (hbase : base ≤ W.heap.size) (hm : xs.length ≤ 9223372036854775807)
    (h : ∀ v1 w1, Kd.S d e w1 base ok v1 xs → Below base w0 w1 → W.grownBy w1 none → (∃ b, v1.ownBlock = some b ∧ W.heap.size ≤ b) → wpList P ops Q rest (a.put o.dst (asP v1)) w1) : wpList P ops Q (o :: rest) a W :=
  box_R (bare d) base e hgd _hd (ok := ok) (okp := ok) hrun hrep (fun _ hk => hk) hfresh HB hbase hm (fun v1 w1 hr => h v1 w1 (S_bare hr))
end
end Go.Proofs.YtekllaaohagefaaDoorW.PrintMore
namespace Go.Proofs.YtekllaaohagefaaDoorW.PrintMore
open Go.RowKit Go.Proofs.YtekllaaohagefaaDoorW.PrintWords Go.Proofs.YtekllaaohagefaaDoorW.PrintLast
/-- The size of the world ahead of an event, as a letter. -/
theorem size_letter {W w1 : World} (_h : Below W.heap.size W w1) : ∃ n : Nat, n = W.heap.size := ⟨_, rfl⟩
theorem old_new {k n : Nat} (h1 : k ≠ max k n) (h2 : k ≠ if k < n then k else k + 1) : False := by
  by_cases h : k < n
  · rw [if_pos h] at h2; exact h2 rfl
  · exact h1 (by omega)
end Go.Proofs.YtekllaaohagefaaDoorW.PrintMore
namespace Go.Proofs.YtekllaaohagefaaDoorW.PrintWords.Kd
open Go.RowKit Go.Proofs.YtekllaaohagefaaDoorW.PrintLast
theorem S_oldP {α : Type} {d : Kd α} {e base N n : Nat} {w1 : World} {ok : Nat → Prop} {u : Value} {xs : List α} (h : S d e w1 base (fun k => ok k ∧ k < N) u xs) (hn : n = N) : S d e w1 base (fun k => ok k ∧ k ≠ max k n) u xs :=
  S_mono h (fun k hk => ⟨hk.1, by have := hk.2; omega⟩)
theorem S_newP {α : Type} {d : Kd α} {e N n : Nat} {w1 : World} {ok : Nat → Prop} {u : Value} {xs : List α} (h : S d e w1 N ok u xs) (hn : n = N) : S d e w1 N (fun k => ok k ∧ k ≠ if k < n then k else k + 1) u xs :=
  S_mono (S_bound h) (fun k hk => ⟨hk.1, by have := hk.2.1; rw [if_neg (by omega)]; omega⟩)
end Go.Proofs.YtekllaaohagefaaDoorW.PrintWords.Kd
namespace Go.Proofs.YtekllaaohagefaaDoorW.PrintWords.Kd
open Go.RowKit Go.Proofs.YtekllaaohagefaaDoorW.PrintLast Go.Proofs.YtekllaaohagefaaDoorW.PrintMore
/-- An element that is a pointer to an array: its one cell is the address that goes with a slice twin. -/
def arrp {α : Type} (e : Nat) (d : Kd α) : Kd (List α) where
  sz := 1
  E := e :: d.E
  K := fun w xs cs => ∃ A c, cs = [.pointer A] ∧ xs.length ≤ c ∧ d.C w A xs.length xs
  M := fun w base ok xs cs => ∃ v, cs = [asP v] ∧ d.R e w base ok v xs
  K_len := by
    rintro w x cs ⟨A, c, rfl, _⟩
    rfl
  K_one := by
    rintro w x cs ⟨A, c, rfl, _⟩ u hu
    rw [List.mem_singleton.1 hu]
    rfl
  K_below := by
    rintro w w1 x cs hb ⟨A, c, rfl, hl, hr⟩
    exact ⟨A, c, rfl, hl, C_below hr hb⟩
  K_of_M := by
    rintro w base ok x cs ⟨v, rfl, h⟩
    obtain ⟨A, c, rfl, hl, hr⟩ := R_reads h
    exact ⟨A, c, rfl, hl, hr⟩
  M_mono := by
    rintro w base ok ok' x cs hok ⟨v, rfl, h⟩
    exact ⟨v, rfl, R_mono h hok⟩
  M_bound := by
    rintro w base ok x cs ⟨v, rfl, h⟩
    exact ⟨v, rfl, R_bound h⟩
  M_move := by
    rintro w w1 base ok x cs hm ⟨v, rfl, h⟩
    exact ⟨v, rfl, R_move h hm⟩
  M_lower := by
    rintro w base base' ok x cs hb ⟨v, rfl, h⟩
    exact ⟨v, rfl, R_lower h hb⟩
theorem heap_arrp {α : Type} {d : Kd α} (e : Nat) (hd : Heap d) : Heap (arrp e d) := ⟨by
  rintro w w1 x cs hb ⟨A, c, rfl, hl, hr⟩
  exact ⟨A, c, rfl, hl, hd.C hb hr⟩⟩
theorem M_rowP {α : Type} {d : Kd α} {e base : Nat} {ok : Nat → Prop} {w : World} {A : Option Addr} {n c : Nat} {xs : List α} (h : d.R e w base ok (.slice A n c) xs) : (arrp e d).M w base ok xs [.pointer A] := ⟨_, rfl, h⟩
theorem ptr_slice {α : Type} {d : Kd α} {e base : Nat} {ok : Nat → Prop} {w : World} {v : Value} {A : Option Addr} {xs : List α} (h : d.R e w base ok v xs) (hv : asP v = .pointer A) : ∃ c, d.R e w base ok (.slice A xs.length c) xs := by
  obtain ⟨A', c, rfl⟩ := R_slice h
  injection hv with hv
  subst hv
  exact ⟨c, h⟩
end Go.Proofs.YtekllaaohagefaaDoorW.PrintWords.Kd
