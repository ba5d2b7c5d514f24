/- Orders of items: when the program and the reference take a list for one; conditions: as each theorem states. -/
import Derived.Test.YtnpfkbfmipnofaaCFnExactExchangeWordQNet
import Derived.Test.YtnpfkbfmipnofaaCFnExactExchangeWordP4
namespace Go.Proofs.Ytnpfkbfmipnofaa.Q
open Go.RowKit Go.Proofs.YtnpfkbfmipnofaaW.PrintWords Go.Proofs.YtnpfkbfmipnofaaW.PrintLast Go.Proofs.YtnpfkbfmipnofaaW.PrintMore Go.Proofs.Ytnpfkbfmipnofaa.P
set_option linter.unusedVariables false
set_option linter.unusedSimpArgs false

theorem nodup_len : ∀ {l m : List Nat}, l.Nodup → (∀ x ∈ l, x ∈ m) → l.length ≤ m.length
  | [], _, _, _ => by simp
  | a :: t, m, hn, hs => by
    obtain ⟨h1, h2⟩ := List.nodup_cons.1 hn
    have ha : a ∈ m := hs a (by simp)
    have := nodup_len (l := t) (m := m.erase a) h2 (fun x hx => (List.mem_erase_of_ne (by rintro rfl; exact h1 hx)).2 (hs x (by simp [hx])))
    have hl := List.length_erase_of_mem ha
    have hp : 0 < m.length := List.length_pos_of_mem ha
    simp only [List.length_cons]
    omega
theorem nodup_of_cover : ∀ {l m : List Nat}, l.Nodup → (∀ x ∈ l, x ∈ m) → m.length ≤ l.length → m.Nodup
  | [], m, _, _, hl => by
    have : m = [] := by simpa using hl
    subst this; exact List.nodup_nil
  | a :: t, m, hn, hs, hl => by
    obtain ⟨h1, h2⟩ := List.nodup_cons.1 hn
    have ha : a ∈ m := hs a (by simp)
    have hle := List.length_erase_of_mem ha
    have hp : 0 < m.length := List.length_pos_of_mem ha
    simp only [List.length_cons] at hl
    have hs2 : ∀ x ∈ t, x ∈ m.erase a := fun x hx => (List.mem_erase_of_ne (by rintro rfl; exact h1 hx)).2 (hs x (by simp [hx]))
    have ih := nodup_of_cover h2 hs2 (by omega)
    have hna : a ∉ m.erase a := by
      intro hm
      have := nodup_len (l := a :: t) (m := m.erase a) hn (fun x hx => by
        rcases List.mem_cons.1 hx with rfl | hx
        · exact hm
        · exact hs2 x hx)
      simp only [List.length_cons] at this
      omega
    exact (List.perm_cons_erase ha).nodup_iff.2 (List.nodup_cons.2 ⟨hna, ih⟩)
/-- An order of n items. -/
structure OrdN (n : Nat) (W : List Nat) : Prop where
  l1 : 1 ≤ n
  l7 : n ≤ 7
  len : W.length = n
  lt : ∀ i ∈ W, i < n
  nd : W.Nodup
theorem OrdN.cover {n : Nat} {W : List Nat} (h : OrdN n W) : ∀ i, i < n → i ∈ W := by
  intro i hi
  rcases Decidable.em (i ∈ W) with h1 | h1
  · exact h1
  · have := nodup_len (l := i :: W) (m := List.range n) (List.nodup_cons.2 ⟨h1, h.nd⟩) (fun x hx => by
      rcases List.mem_cons.1 hx with rfl | hx
      · simpa using hi
      · simpa using h.lt x hx)
    have := h.len
    simp at *
    omega
/-- The set of a list of items. -/
def orL (W : List Nat) (s : Nat) : Nat := W.foldl (fun s i => s ||| 2 ^ i) s
theorem orL_testBit : ∀ (W : List Nat) (s i : Nat), (orL W s).testBit i = (s.testBit i || decide (i ∈ W))
  | [], s, i => by simp [orL]
  | a :: W, s, i => by
    show (orL W (s ||| 2 ^ a)).testBit i = _
    rw [orL_testBit W, Nat.testBit_or, Nat.testBit_two_pow]
    by_cases h : a = i
    · simp [h]
    · have : ¬ i = a := fun e => h e.symm
      simp [h, this]
theorem orL_full {n : Nat} {W : List Nat} (hn : n ≤ 7) (hW : ∀ i ∈ W, i < n) : orL W 0 = 2 ^ n - 1 ↔ ∀ i, i < n → i ∈ W := by
  constructor
  · intro h i hi
    have : (orL W 0).testBit i = true := by rw [h, Nat.testBit_two_pow_sub_one]; simpa using hi
    rw [orL_testBit] at this
    simpa using this
  · intro h
    apply Nat.eq_of_testBit_eq
    intro i
    rw [orL_testBit, Nat.testBit_two_pow_sub_one, Nat.zero_testBit, Bool.false_or]
    by_cases hi : i < n
    · simp [hi, h i hi]
    · have : i ∉ W := fun hm => hi (hW i hm)
      simp [hi, this]
theorem orL_lt {W : List Nat} (hW : ∀ i ∈ W, i < 7) {s : Nat} (hs : s < 128) : orL W s < 128 := by
  apply Nat.lt_pow_two_of_testBit (n := 7)
  intro i hi
  rw [orL_testBit]
  have h1 : i ∉ W := fun hm => by have := hW i hm; omega
  have h2 : s.testBit i = false := Nat.testBit_lt_two_pow (Nat.lt_of_lt_of_le hs (show 2 ^ 7 ≤ 2 ^ i from Nat.pow_le_pow_right (by omega) hi))
  simp [h1, h2]

/-- In range? -/
def rngB (n : Nat) (w : List Int) : Bool := w.all fun x => decide (0 ≤ x ∧ x ≤ (n : Int) - 1)
theorem isOrder_loop (n : Nat) (h1 : 1 ≤ n) (h7 : n ≤ 7) (w : List Int) (hl : w.length ≤ 1099511627776) : ∀ (rest pre : List Int) (s : Nat), pre ++ rest = w → s < 128 →
    Ev (fun k => impl_isOrder.l0 k (n : Int) (s : Int) w (w.length : Int) (pre.length : Int)) (rngB n rest && decide (orL (rest.map Int.toNat) s = 2 ^ n - 1)) := by
  intro rest
  induction rest with
  | nil =>
    intro pre s e hs
    obtain rfl : pre = w := by simpa using e
    refine Ev.step (fun k => by rw [impl_isOrder.l0]) ?_
    simp only [show ¬ ((pre.length : Int) < (pre.length : Int)) from by omega, show (0 : Int) ≤ (n : Int) from by omega, pow1 (show n ≤ 61 from by omega), ↓reduceIte]
    refine (Ev.some _).eq ?_
    rw [Bool.eq_iff_iff, beq_iff_eq]
    simp [rngB, orL]
    omega
  | cons x rest ih =>
    intro pre s e hs
    have hlen : w.length = pre.length + (rest.length + 1) := by rw [← e]; simp
    have er : rd w (pre.length : Int) = x := by rw [← e]; exact rd_mid _ _ _
    have ew : wrap64 ((n : Int) - 1) = (n : Int) - 1 := w64 (by omega) (by omega)
    have hn := fun s' hs' => ih (pre ++ [x]) s' (by simp [e]) hs'
    simp only [List.length_append, List.length_singleton] at hn
    refine Ev.step (fun k => by rw [impl_isOrder.l0]) ?_
    simp only [show ((pre.length : Int) < (w.length : Int)) from by omega, show (0 : Int) ≤ (pre.length : Int) from by omega, er, ew, within_eq, Option.bind_some, decide_eq_true_eq, ↓reduceIte]
    by_cases hx : 0 ≤ x ∧ x ≤ (n : Int) - 1
    · obtain ⟨i, rfl⟩ := Int.eq_ofNat_of_zero_le hx.1
      have hi : i < 7 := by omega
      have hp2 : 2 ^ i < 128 := pow_lt_128 hi
      simp only [hx, and_self, ↓reduceIte, shl1 (show i ≤ 61 from by omega), bOr (show s < 2 ^ 62 from by omega) (show 2 ^ i < 2 ^ 62 from by omega)]
      rw [wnext (n := w.length) (by omega) hl]
      refine (hn _ (Nat.or_lt_two_pow (n := 7) hs hp2)).eq ?_
      simp only [rngB, List.all_cons, hx, and_self, decide_true, Bool.true_and, List.map_cons, Int.toNat_natCast]
      rfl
    · simp only [hx, ↓reduceIte]
      exact (Ev.some _).eq (by simp only [rngB, List.all_cons, decide_eq_false hx, Bool.false_and])
theorem isOrder_val (w : List Int) (hl : w.length ≤ 1099511627776) (n : Nat) : Ev (fun k => impl_isOrder.f k w (n : Int)) (decide (w.length = n) && decide (1 ≤ n ∧ n ≤ 7) && (rngB n w && decide (orL (w.map Int.toNat) 0 = 2 ^ n - 1))) := by
  have hj : ∀ b : Bool, (b = false → 1 ≤ n ∧ n ≤ 7) → Ev (fun k => impl_isOrder.j0 k w (n : Int) b) (!b && (rngB n w && decide (orL (w.map Int.toNat) 0 = 2 ^ n - 1))) := by
    intro b hb
    refine Ev.step (fun k => by rw [impl_isOrder.j0]) ?_
    cases b with
    | true => simp only [↓reduceIte]; exact Ev.some _
    | false =>
      simp only [↓reduceIte, Bool.false_eq_true]
      have := isOrder_loop n (hb rfl).1 (hb rfl).2 w hl w [] 0 rfl (by omega)
      exact this.eq (by simp)
  unfold impl_isOrder.f
  by_cases hw : w.length = n
  · simp only [show ((w.length : Int) = (n : Int)) from by omega, isSize_eq, Option.bind_some, ↓reduceIte]
    by_cases hn : 1 ≤ n ∧ n ≤ 7
    · have hn' : (1 : Int) ≤ (n : Int) ∧ (n : Int) ≤ 7 := by omega
      exact (hj _ (fun _ => hn)).eq (by simp [hw, hn, hn'])
    · have hn' : ¬ ((1 : Int) ≤ (n : Int) ∧ (n : Int) ≤ 7) := by omega
      simp only [decide_eq_false hn', Bool.not_false]
      exact (hj true (by simp)).eq (by simp only [decide_eq_false hn, Bool.not_true, Bool.false_and, Bool.and_false])
  · simp only [show ¬ ((w.length : Int) = (n : Int)) from by omega, ↓reduceIte]
    exact (hj true (by simp)).eq (by simp only [decide_eq_false hw, Bool.not_true, Bool.false_and])

/-! ### the reference -/
theorem l1Has_loop (l : List Int) (hl : l.length ≤ 1099511627776) (x : Int) : ∀ rest pre : List Int, pre ++ rest = l →
    Ev (fun k => spec_l1Has.l0 k x l (l.length : Int) (pre.length : Int)) (decide (x ∈ rest)) := by
  intro rest
  induction rest with
  | nil =>
    intro pre e
    obtain rfl : pre = l := by simpa using e
    refine Ev.step (fun k => by rw [spec_l1Has.l0]) ?_
    simp only [show ¬ ((pre.length : Int) < (pre.length : Int)) from by omega, ↓reduceIte]
    exact Ev.some _
  | cons y rest ih =>
    intro pre e
    have hlen : l.length = pre.length + (rest.length + 1) := by rw [← e]; simp
    have er : rd l (pre.length : Int) = y := by rw [← e]; exact rd_mid _ _ _
    have hn := ih (pre ++ [y]) (by simp [e])
    simp only [List.length_append, List.length_singleton] at hn
    refine Ev.step (fun k => by rw [spec_l1Has.l0]) ?_
    simp only [show ((pre.length : Int) < (l.length : Int)) from by omega, show (0 : Int) ≤ (pre.length : Int) from by omega, er, ↓reduceIte]
    rw [wnext (n := l.length) (by omega) hl]
    by_cases hx : y = x
    · simp only [hx, ↓reduceIte]; exact (Ev.some _).eq (by simp [hx])
    · have hx' : ¬ x = y := fun h => hx h.symm
      simp only [hx, ↓reduceIte]; exact hn.eq (by simp [hx'])
theorem l1Has_ev (l : List Int) (hl : l.length ≤ 1099511627776) (x : Int) : Ev (fun k => spec_l1Has.f k l x) (decide (x ∈ l)) := by
  unfold spec_l1Has.f
  simpa using l1Has_loop l hl x l [] rfl
/-- None of the rest came up before. -/
def chk : List Int → List Int → Bool
  | _, [] => true
  | pre, x :: r => !decide (x ∈ pre) && chk (pre ++ [x]) r
theorem chk_iff : ∀ {rest pre : List Int}, pre.Nodup → (chk pre rest = true ↔ (pre ++ rest).Nodup)
  | [], pre, h => by simp [chk, h]
  | x :: r, pre, h => by
    unfold chk
    rw [Bool.and_eq_true]
    by_cases hx : x ∈ pre
    · simp only [hx, decide_true, Bool.not_true, Bool.false_eq_true, false_and, false_iff]
      intro hn
      exact (List.nodup_append.1 hn).2.2 x hx x (by simp) rfl
    · have hp : (pre ++ [x]).Nodup := by
        refine List.nodup_append.2 ⟨h, by simp, ?_⟩
        intro a ha b hb
        rw [List.mem_singleton] at hb
        rintro rfl; subst hb; exact hx ha
      simp only [hx, decide_false, Bool.not_false, true_and, chk_iff hp, List.append_assoc, List.singleton_append]
theorem spOrder_loop (w : List Int) (hl : w.length ≤ 1099511627776) : ∀ rest pre : List Int, pre ++ rest = w →
    Ev (fun k => spec_spOrder.l0 k w w (w.length : Int) (pre.length : Int)) (chk pre rest) := by
  intro rest
  induction rest with
  | nil =>
    intro pre e
    obtain rfl : pre = w := by simpa using e
    refine Ev.step (fun k => by rw [spec_spOrder.l0]) ?_
    simp only [show ¬ ((pre.length : Int) < (pre.length : Int)) from by omega, ↓reduceIte]
    exact Ev.some _
  | cons y rest ih =>
    intro pre e
    have hlen : w.length = pre.length + (rest.length + 1) := by rw [← e]; simp
    have er : rd w (pre.length : Int) = y := by rw [← e]; exact rd_mid _ _ _
    have et : w.take pre.length = pre := by rw [← e]; exact List.take_left' rfl
    have hn := ih (pre ++ [y]) (by simp [e])
    simp only [List.length_append, List.length_singleton] at hn
    refine Ev.step (fun k => by rw [spec_spOrder.l0]) ?_
    simp only [show ((pre.length : Int) < (w.length : Int)) from by omega, show (0 : Int) ≤ (pre.length : Int) from by omega, show (pre.length : Int) ≤ (w.length : Int) from by omega, er, Int.toNat_natCast, et, ↓reduceIte]
    refine Ev.bind (l1Has_ev pre (by omega) y) ?_
    rw [wnext (n := w.length) (by omega) hl]
    by_cases hx : y ∈ pre
    · simp only [hx, decide_true, ↓reduceIte]; exact (Ev.some _).eq (by simp [chk, hx])
    · simp only [hx, decide_false, ↓reduceIte, Bool.false_eq_true]; exact hn.eq (by simp [chk, hx])
theorem spOrder_val (w : List Int) (hl : w.length ≤ 1099511627776) : Ev (fun k => spec_spOrder.f k w) (decide (1 ≤ w.length ∧ w.length ≤ 7) && (rngB w.length w && chk [] w)) := by
  have hj : ∀ b : Bool, Ev (fun k => spec_spOrder.j0 k w b) (!b && chk [] w) := by
    intro b
    refine Ev.step (fun k => by rw [spec_spOrder.j0]) ?_
    cases b with
    | true => simp only [↓reduceIte]; exact Ev.some _
    | false =>
      simp only [↓reduceIte, Bool.false_eq_true]
      exact spOrder_loop w hl w [] rfl
  unfold spec_spOrder.f
  by_cases hn : 1 ≤ w.length ∧ w.length ≤ 7
  · have hn' : (1 : Int) ≤ (w.length : Int) ∧ (w.length : Int) ≤ 7 := by omega
    have ew : wrap64 ((w.length : Int) - 1) = (w.length : Int) - 1 := w64 (by omega) (by omega)
    simp only [spItems_eq, decide_eq_true hn', Option.bind_some, ↓reduceIte, ew]
    refine Ev.bind (l1All_ev w hl 0 _) ?_
    exact (hj _).eq (by simp [rngB, hn])
  · have hn' : ¬ ((1 : Int) ≤ (w.length : Int) ∧ (w.length : Int) ≤ 7) := by omega
    simp only [spItems_eq, decide_eq_false hn', Option.bind_some, ↓reduceIte, Bool.false_eq_true]
    exact (hj true).eq (by simp only [decide_eq_false hn, Bool.not_true, Bool.false_and])
theorem castL_nodup {W : List Nat} : (castL W).Nodup ↔ W.Nodup := by
  unfold castL List.Nodup
  rw [List.pairwise_map]
  constructor <;> intro h <;> refine h.imp (fun hh => ?_)
  · intro e; exact hh (by rw [e])
  · intro e; exact hh (by omega)
/-- Both take the same lists for orders. -/
theorem order_cases {w : List Int} (hl : w.length ≤ 1099511627776) : (Ev (fun k => impl_isOrder.f k w (w.length : Int)) false ∧ Ev (fun k => spec_spOrder.f k w) false) ∨
    ∃ W : List Nat, w = castL W ∧ OrdN w.length W ∧ Ev (fun k => impl_isOrder.f k w (w.length : Int)) true ∧ Ev (fun k => spec_spOrder.f k w) true := by
  by_cases hn : 1 ≤ w.length ∧ w.length ≤ 7
  · cases hr : rngB w.length w with
    | false => exact .inl ⟨(isOrder_val w hl _).eq (by rw [hr]; simp), (spOrder_val w hl).eq (by rw [hr]; simp)⟩
    | true =>
      have hall := List.all_eq_true.1 hr
      simp only [decide_eq_true_eq] at hall
      obtain ⟨W, hW⟩ : ∃ W, w = castL W := ⟨w.map Int.toNat, (castL_of fun x hx => (hall x hx).1).symm⟩
      have hm : w.map Int.toNat = W := by rw [hW]; simp [castL, List.map_map, Function.comp_def]
      have hlt : ∀ i ∈ W, i < w.length := by
        intro i hi
        have := hall (i : Int) (by rw [hW]; exact mem_castL.2 hi)
        omega
      have hlen : W.length = w.length := by rw [hW]; simp
      have hchk : chk [] w = true ↔ W.Nodup := by rw [chk_iff List.nodup_nil, List.nil_append, hW, castL_nodup]
      by_cases hN : W.Nodup
      · have hO : OrdN w.length W := ⟨hn.1, hn.2, hlen, hlt, hN⟩
        refine .inr ⟨W, hW, hO, (isOrder_val w hl _).eq ?_, (spOrder_val w hl).eq ?_⟩
        · rw [hr, hm, decide_eq_true ((orL_full hn.2 hlt).2 hO.cover)]; simp [hn]
        · rw [hr, hchk.2 hN]; simp [hn]
      · refine .inl ⟨(isOrder_val w hl _).eq ?_, (spOrder_val w hl).eq ?_⟩
        · have : ¬ orL W 0 = 2 ^ w.length - 1 := by
            intro h
            have hc := (orL_full hn.2 hlt).1 h
            exact hN (nodup_of_cover (l := List.range w.length) List.nodup_range (fun x hx => hc x (List.mem_range.1 hx)) (by simp [hlen]))
          rw [hm, decide_eq_false this]; simp
        · have : chk [] w = false := by rw [Bool.eq_false_iff]; exact fun h => hN (hchk.1 h)
          rw [this]; simp
  · exact .inl ⟨(isOrder_val w hl _).eq (by rw [decide_eq_false hn]; simp), (spOrder_val w hl).eq (by rw [decide_eq_false hn]; simp)⟩
end Go.Proofs.Ytnpfkbfmipnofaa.Q
