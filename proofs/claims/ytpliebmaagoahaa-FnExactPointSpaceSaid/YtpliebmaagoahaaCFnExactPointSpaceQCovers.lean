/- Is a point covered by a set of points: the program's answer and the reference's; conditions: as each theorem states. -/
import Derived.Test.YtpliebmaagoahaaCFnExactPointSpaceQGeo
import Derived.Test.YtpliebmaagoahaaCFnExactPointSpaceQPts
import Derived.Test.YtpliebmaagoahaaCFnExactPointSpaceP6
namespace Go.Proofs.Ytpliebmaagoahaa.Q
open Go.RowKit Go.Proofs.YtpliebmaagoahaaW.PrintWords Go.Proofs.YtpliebmaagoahaaW.PrintLast Go.Proofs.YtpliebmaagoahaaW.PrintMore Go.Proofs.Ytpliebmaagoahaa.P
set_option linter.unusedVariables false
set_option linter.unusedSimpArgs false

/-- Valid points. -/
structure PtsN (P : List (List Int)) : Prop where
  l1 : 1 ≤ P.length
  l7 : P.length ≤ 7
  pt : ∀ p ∈ P, ptB p = true
  nd : P.Nodup
theorem chkP_iff : ∀ {rest pre : List (List Int)}, pre.Nodup → chkP pre rest = true → (∀ p ∈ rest, ptB p = true) ∧ (pre ++ rest).Nodup
  | [], pre, h, _ => by simp [h]
  | x :: r, pre, h, hc => by
    unfold chkP at hc
    simp only [Bool.and_eq_true, Bool.not_eq_true', decide_eq_false_iff_not] at hc
    obtain ⟨h1, h2, h3⟩ := hc
    have hp : (pre ++ [x]).Nodup := by
      refine List.nodup_append.2 ⟨h, by simp, ?_⟩
      intro a ha b hb
      rw [List.mem_singleton] at hb
      rintro rfl; subst hb; exact h2 ha
    obtain ⟨h4, h5⟩ := chkP_iff hp h3
    refine ⟨fun p hp => ?_, by simpa using h5⟩
    rcases List.mem_cons.1 hp with rfl | hp
    · exact h1
    · exact h4 p hp
theorem ptsN_of {P : List (List Int)} (h : ptsB P = true) : PtsN P := by
  unfold ptsB at h
  simp only [Bool.and_eq_true, decide_eq_true_eq] at h
  obtain ⟨⟨h1, h7⟩, hc⟩ := h
  obtain ⟨h2, h3⟩ := chkP_iff List.nodup_nil hc
  exact ⟨h1, h7, h2, by simpa using h3⟩
theorem PtsN.get {P : List (List Int)} (h : PtsN P) {i : Nat} (hi : i < P.length) : ptB (P.getD i []) = true := by
  refine h.pt _ ?_
  rw [List.getD_eq_getElem?_getD, List.getElem?_eq_getElem hi]; exact List.getElem_mem hi
theorem PtsN.inj {P : List (List Int)} (h : PtsN P) {i j : Nat} (hi : i < P.length) (hj : j < P.length) (e : P.getD i [] = P.getD j []) : i = j := by
  rw [List.getD_eq_getElem?_getD, List.getElem?_eq_getElem hi, List.getD_eq_getElem?_getD, List.getElem?_eq_getElem hj] at e
  simp only [Option.getD_some] at e
  have hp := List.pairwise_iff_getElem.1 h.nd
  rcases Nat.lt_trichotomy i j with h1 | h1 | h1
  · exact absurd e (hp i j hi hj h1)
  · exact h1
  · exact absurd e.symm (hp j i hj hi h1)
theorem pt_vals {p : List Int} (h : ptB p = true) : p.length = 2 ∧ (-20 ≤ rd p 0 ∧ rd p 0 ≤ 20) ∧ (-20 ≤ rd p 1 ∧ rd p 1 ≤ 20) := by
  unfold ptB at h
  simp only [Bool.and_eq_true, decide_eq_true_eq] at h
  obtain ⟨h2, h3⟩ := h
  match p, h2 with
  | [x, y], _ =>
    simp only [List.all_cons, List.all_nil, Bool.and_true, Bool.and_eq_true, decide_eq_true_eq] at h3
    exact ⟨rfl, h3.1, h3.2⟩
theorem pt_ext {p q : List Int} (hp : p.length = 2) (hq : q.length = 2) (h0 : rd p 0 = rd q 0) (h1 : rd p 1 = rd q 1) : p = q := by
  match p, q, hp, hq with
  | [x, y], [u, v], _, _ =>
    have e0 : x = u := h0
    have e1 : y = v := h1
    rw [e0, e1]
theorem mul_bd {x y : Int} (hx : -40 ≤ x ∧ x ≤ 40) (hy : -40 ≤ y ∧ y ≤ 40) : -1600 ≤ x * y ∧ x * y ≤ 1600 := by
  have h1 : 0 ≤ (40 - x) * (40 - y) := Int.mul_nonneg (by omega) (by omega)
  have h2 : 0 ≤ (40 + x) * (40 + y) := Int.mul_nonneg (by omega) (by omega)
  have h3 : 0 ≤ (40 - x) * (40 + y) := Int.mul_nonneg (by omega) (by omega)
  have h4 : 0 ≤ (40 + x) * (40 - y) := Int.mul_nonneg (by omega) (by omega)
  have e1 : (40 - x) * (40 - y) + (40 + x) * (40 + y) = 3200 + 2 * (x * y) := by grind
  have e2 : (40 - x) * (40 + y) + (40 + x) * (40 - y) = 3200 - 2 * (x * y) := by grind
  omega
theorem turn_eq {a b p : List Int} (ha : ptB a = true) (hb : ptB b = true) (hp : ptB p = true) : spec_shTurn.f a b p = some (cr a b p) := by
  obtain ⟨la, a0, a1⟩ := pt_vals ha
  obtain ⟨lb, b0, b1⟩ := pt_vals hb
  obtain ⟨lp, p0, p1⟩ := pt_vals hp
  have m1 := mul_bd (x := rd b 0 - rd a 0) (y := rd p 1 - rd a 1) (by omega) (by omega)
  have m2 := mul_bd (x := rd b 1 - rd a 1) (y := rd p 0 - rd a 0) (by omega) (by omega)
  unfold spec_shTurn.f
  simp only [la, lb, lp, show (0 : Int) < ((2 : Nat) : Int) from by omega, show (1 : Int) < ((2 : Nat) : Int) from by omega, ↓reduceIte]
  rw [w64 (x := rd b 0 - rd a 0) (by omega) (by omega), w64 (x := rd p 1 - rd a 1) (by omega) (by omega), w64 (x := rd b 1 - rd a 1) (by omega) (by omega), w64 (x := rd p 0 - rd a 0) (by omega) (by omega),
    w64 (x := (rd b 0 - rd a 0) * (rd p 1 - rd a 1)) (by omega) (by omega), w64 (x := (rd b 1 - rd a 1) * (rd p 0 - rd a 0)) (by omega) (by omega), w64 (by omega) (by omega)]
  rfl
theorem side_eq {a b p : List Int} (ha : ptB a = true) (hb : ptB b = true) (hp : ptB p = true) : impl_side.f a b p = some (cr a b p) := turn_eq ha hb hp
theorem between_eq {a b p : List Int} (ha : ptB a = true) (hb : ptB b = true) (hp : ptB p = true) : impl_between.f a b p = some (decide (Bet a b p)) := by
  obtain ⟨la, a0, a1⟩ := pt_vals ha
  obtain ⟨lb, b0, b1⟩ := pt_vals hb
  obtain ⟨lp, p0, p1⟩ := pt_vals hp
  unfold impl_between.f
  simp only [side_eq ha hb hp, Option.bind_some, la, lb, lp, show (0 : Int) < ((2 : Nat) : Int) from by omega, show (1 : Int) < ((2 : Nat) : Int) from by omega, within_eq, decide_eq_true_eq, ↓reduceIte]
  by_cases h1 : cr a b p = 0
  · by_cases h2 : mn (rd a 0) (rd b 0) ≤ rd p 0 ∧ rd p 0 ≤ mx (rd a 0) (rd b 0)
    · simp only [h1, h2, and_self, ↓reduceIte]
      congr 1
      rw [decide_eq_decide]
      exact ⟨fun h => ⟨h1, h2, h⟩, fun h => h.2.2⟩
    · simp only [h1, h2, ↓reduceIte]
      congr 1
      exact (decide_eq_false (fun h => h2 h.2.1)).symm
  · simp only [h1, ↓reduceIte]
    congr 1
    exact (decide_eq_false (fun h => h1 h.1)).symm
theorem betS_eq {a b p : List Int} (ha : ptB a = true) (hb : ptB b = true) (hp : ptB p = true) : spec_shBetween.f p a b = some (decide (BetS p a b)) := by
  obtain ⟨la, a0, a1⟩ := pt_vals ha
  obtain ⟨lb, b0, b1⟩ := pt_vals hb
  obtain ⟨lp, p0, p1⟩ := pt_vals hp
  have m1 := mul_bd (x := rd p 0 - rd a 0) (y := rd p 0 - rd b 0) (by omega) (by omega)
  have m2 := mul_bd (x := rd p 1 - rd a 1) (y := rd p 1 - rd b 1) (by omega) (by omega)
  unfold spec_shBetween.f
  simp only [turn_eq ha hb hp, Option.bind_some, la, lb, lp, show (0 : Int) < ((2 : Nat) : Int) from by omega, show (1 : Int) < ((2 : Nat) : Int) from by omega, ↓reduceIte]
  rw [w64 (x := rd p 0 - rd a 0) (by omega) (by omega), w64 (x := rd p 0 - rd b 0) (by omega) (by omega), w64 (x := rd p 1 - rd a 1) (by omega) (by omega), w64 (x := rd p 1 - rd b 1) (by omega) (by omega),
    w64 (x := (rd p 0 - rd a 0) * (rd p 0 - rd b 0)) (by omega) (by omega), w64 (x := (rd p 1 - rd a 1) * (rd p 1 - rd b 1)) (by omega) (by omega), w64 (by omega) (by omega)]
  by_cases h1 : cr a b p = 0
  · simp only [h1, ↓reduceIte]
    congr 1
    rw [decide_eq_decide]
    exact ⟨fun h => ⟨h1, h⟩, fun h => h.2⟩
  · simp only [h1, ↓reduceIte]
    congr 1
    exact (decide_eq_false (fun h => h1 h.1)).symm
theorem within3_eq {a b c p : List Int} (ha : ptB a = true) (hb : ptB b = true) (hc : ptB c = true) (hp : ptB p = true) : spec_shWithin.f p a b c = some (decide (Wk p a b c)) := by
  unfold spec_shWithin.f
  simp only [turn_eq ha hb hp, turn_eq hb hc hp, turn_eq hc ha hp, turn_eq ha hb hc, Option.bind_some]
  unfold Wk
  by_cases h0 : cr a b c = 0
  · simp [h0]
  · simp only [h0, ↓reduceIte, ge_iff_le]
    by_cases g1 : 0 ≤ cr a b p <;> by_cases g2 : 0 ≤ cr b c p <;> by_cases g3 : 0 ≤ cr c a p <;> by_cases g4 : cr a b p ≤ 0 <;> by_cases g5 : cr b c p ≤ 0 <;> simp [g1, g2, g3, g4, g5, h0]
theorem inTri_ev {a b c p : List Int} (ha : ptB a = true) (hb : ptB b = true) (hc : ptB c = true) (hp : ptB p = true) : Ev (fun k => impl_inTriangle.f k a b c p) (decide (InT a b c p)) := by
  have hj : ∀ q : Bool, Ev (fun k => impl_inTriangle.j0 k a b c p q) (q || decide (Str a b c p)) := by
    intro q
    refine Ev.step (fun k => by rw [impl_inTriangle.j0]) ?_
    cases q with
    | true => simp only [↓reduceIte]; exact (Ev.some _).eq (by simp)
    | false =>
      simp only [↓reduceIte, Bool.false_eq_true, side_eq ha hb hp, side_eq hb hc hp, side_eq hc ha hp, Option.bind_some, Bool.false_or]
      refine Ev.all ?_
      unfold Str
      by_cases g1 : cr a b p > 0 <;> by_cases g2 : cr b c p > 0 <;> by_cases g3 : cr c a p > 0 <;> by_cases g4 : cr a b p < 0 <;> by_cases g5 : cr b c p < 0 <;> simp [g1, g2, g3, g4, g5] <;> omega
  unfold impl_inTriangle.f
  simp only [between_eq ha hb hp, between_eq hb hc hp, between_eq hc ha hp, Option.bind_some, decide_eq_true_eq]
  unfold InT
  by_cases h1 : Bet a b p
  · simp only [h1, ↓reduceIte]; exact (hj true).eq (by simp)
  · simp only [h1, ↓reduceIte]
    by_cases h2 : Bet b c p
    · simp only [h2, ↓reduceIte]; exact (hj true).eq (by simp)
    · simp only [h2, ↓reduceIte]
      exact (hj _).eq (by simp)

/-! ### the program -/
def inTB (P : List (List Int)) (v a b c : Nat) : Bool := decide (InT (P.getD a []) (P.getD b []) (P.getD c []) (P.getD v []))
theorem covers_l2 {P : List (List Int)} (h : PtsN P) {v : Nat} (hv : v < P.length) (I : List Nat) (hI : ∀ i ∈ I, i < P.length) (hl : I.length ≤ 7) {a b : Nat} (ha : a < P.length) (hb : b < P.length) (i j : Nat) (r : Bool)
    (hr : Ev (fun k => impl_covers.l1 k P (castL I) (P.getD v []) (a : Int) (castL I) (I.length : Int) (i : Int) (castL I) (I.length : Int) (wrap64 ((j : Int) + 1))) r) : ∀ rest pre : List Nat, pre ++ rest = I →
    Ev (fun k => impl_covers.l2 k P (castL I) (P.getD v []) (a : Int) (b : Int) (castL I) (I.length : Int) (i : Int) (castL I) (I.length : Int) (j : Int) (castL I) (I.length : Int) (pre.length : Int)) (rest.any (inTB P v a b) || r) := by
  intro rest
  induction rest with
  | nil =>
    intro pre e
    obtain rfl : pre = I := by simpa using e
    refine Ev.step (fun k => by rw [impl_covers.l2]) ?_
    simp only [show ¬ ((pre.length : Int) < (pre.length : Int)) from by omega, ↓reduceIte]
    exact hr.eq (by simp)
  | cons c rest ih =>
    intro pre e
    have hc : c < P.length := hI c (by rw [← e]; simp)
    have hlen : I.length = pre.length + (rest.length + 1) := by rw [← e]; simp
    have er : rd (castL I) (pre.length : Int) = (c : Int) := by rw [← e]; exact rd_castL_mid _ _ _
    have hn := ih (pre ++ [c]) (by simp [e])
    simp only [List.length_append, List.length_singleton] at hn
    refine Ev.step (fun k => by rw [impl_covers.l2]) ?_
    simp only [show ((pre.length : Int) < (I.length : Int)) from by omega, show (0 : Int) ≤ (pre.length : Int) from by omega, castL_length, er, show (0 : Int) ≤ (a : Int) from by omega, show (a : Int) < (P.length : Int) from by omega, show (0 : Int) ≤ (b : Int) from by omega, show (b : Int) < (P.length : Int) from by omega, show (0 : Int) ≤ (c : Int) from by omega, show (c : Int) < (P.length : Int) from by omega, rdL_nat, ↓reduceIte]
    refine Ev.bind (inTri_ev (h.get ha) (h.get hb) (h.get hc) (h.get hv)) ?_
    rw [wnext (n := I.length) (by omega) (by omega)]
    by_cases ht : InT (P.getD a []) (P.getD b []) (P.getD c []) (P.getD v [])
    · simp only [decide_eq_true ht, ↓reduceIte]
      exact (Ev.some _).eq (by simp only [List.any_cons, inTB, decide_eq_true ht, Bool.true_or])
    · simp only [decide_eq_false ht, ↓reduceIte, Bool.false_eq_true]
      exact hn.eq (by simp only [List.any_cons, inTB, decide_eq_false ht, Bool.false_or])
theorem covers_l1 {P : List (List Int)} (h : PtsN P) {v : Nat} (hv : v < P.length) (I : List Nat) (hI : ∀ i ∈ I, i < P.length) (hl : I.length ≤ 7) {a : Nat} (ha : a < P.length) (i : Nat) (r : Bool)
    (hr : Ev (fun k => impl_covers.l0 k P (castL I) (P.getD v []) (castL I) (I.length : Int) (wrap64 ((i : Int) + 1))) r) : ∀ rest pre : List Nat, pre ++ rest = I →
    Ev (fun k => impl_covers.l1 k P (castL I) (P.getD v []) (a : Int) (castL I) (I.length : Int) (i : Int) (castL I) (I.length : Int) (pre.length : Int)) ((rest.any fun b => I.any (inTB P v a b)) || r) := by
  intro rest
  induction rest with
  | nil =>
    intro pre e
    obtain rfl : pre = I := by simpa using e
    refine Ev.step (fun k => by rw [impl_covers.l1]) ?_
    simp only [show ¬ ((pre.length : Int) < (pre.length : Int)) from by omega, ↓reduceIte]
    exact hr.eq (by simp)
  | cons b rest ih =>
    intro pre e
    have hb : b < P.length := hI b (by rw [← e]; simp)
    have hlen : I.length = pre.length + (rest.length + 1) := by rw [← e]; simp
    have er : rd (castL I) (pre.length : Int) = (b : Int) := by rw [← e]; exact rd_castL_mid _ _ _
    have hn := ih (pre ++ [b]) (by simp [e])
    simp only [List.length_append, List.length_singleton] at hn
    rw [← wnext (n := I.length) (by omega) (by omega)] at hn
    refine Ev.step (fun k => by rw [impl_covers.l1]) ?_
    simp only [show ((pre.length : Int) < (I.length : Int)) from by omega, show (0 : Int) ≤ (pre.length : Int) from by omega, castL_length, er, ↓reduceIte]
    exact (covers_l2 h hv I hI hl ha hb i pre.length _ hn I [] rfl).eq (by rw [List.any_cons, Bool.or_assoc])
theorem covers_l0 {P : List (List Int)} (h : PtsN P) {v : Nat} (hv : v < P.length) (I : List Nat) (hI : ∀ i ∈ I, i < P.length) (hl : I.length ≤ 7) : ∀ rest pre : List Nat, pre ++ rest = I →
    Ev (fun k => impl_covers.l0 k P (castL I) (P.getD v []) (castL I) (I.length : Int) (pre.length : Int)) (rest.any fun a => I.any fun b => I.any (inTB P v a b)) := by
  intro rest
  induction rest with
  | nil =>
    intro pre e
    obtain rfl : pre = I := by simpa using e
    refine Ev.step (fun k => by rw [impl_covers.l0]) ?_
    simp only [show ¬ ((pre.length : Int) < (pre.length : Int)) from by omega, ↓reduceIte]
    exact (Ev.some _).eq (by simp)
  | cons a rest ih =>
    intro pre e
    have ha : a < P.length := hI a (by rw [← e]; simp)
    have hlen : I.length = pre.length + (rest.length + 1) := by rw [← e]; simp
    have er : rd (castL I) (pre.length : Int) = (a : Int) := by rw [← e]; exact rd_castL_mid _ _ _
    have hn := ih (pre ++ [a]) (by simp [e])
    simp only [List.length_append, List.length_singleton] at hn
    rw [← wnext (n := I.length) (by omega) (by omega)] at hn
    refine Ev.step (fun k => by rw [impl_covers.l0]) ?_
    simp only [show ((pre.length : Int) < (I.length : Int)) from by omega, show (0 : Int) ≤ (pre.length : Int) from by omega, castL_length, er, ↓reduceIte]
    exact (covers_l1 h hv I hI hl ha pre.length _ hn I [] rfl).eq (by rw [List.any_cons])
theorem items_len (q : Nat) : (itemsN q).length ≤ 7 := by
  unfold itemsN; exact Nat.le_trans (List.length_filter_le _ _) (by simp)
theorem items_below {n s : Nat} (hs : s < 2 ^ n) : ∀ i ∈ itemsN s, i < n := by
  intro i hi
  have h1 := (mem_itemsN.1 hi).2
  rcases Nat.lt_or_ge i n with h3 | h3
  · exact h3
  · rw [Nat.testBit_lt_two_pow (Nat.lt_of_lt_of_le hs (Nat.pow_le_pow_right (by omega) h3))] at h1; exact absurd h1 (by decide)
def covI (P : List (List Int)) (s v : Nat) : Bool := (itemsN s).any fun a => (itemsN s).any fun b => (itemsN s).any (inTB P v a b)
theorem covers_ev {P : List (List Int)} (h : PtsN P) {v s : Nat} (hv : v < P.length) (hs : s < 2 ^ P.length) : Ev (fun k => impl_covers.f k P (s : Int) (v : Int)) (covI P s v) := by
  have h2 : 2 ^ P.length ≤ 2 ^ 7 := Nat.pow_le_pow_right (by omega) h.l7
  unfold impl_covers.f
  refine Ev.bind (items_ev (by omega)) ?_
  simp only [show (0 : Int) ≤ (v : Int) from by omega, show (v : Int) < (P.length : Int) from by omega, rdL_nat, castL_length, ↓reduceIte]
  exact covers_l0 h hv (itemsN s) (items_below hs) (items_len s) (itemsN s) [] rfl

/-! ### the reference -/
/-- Something holds for one of the d numbers from i on. -/
def exF (p : Nat → Bool) : Nat → Nat → Bool
  | _, 0 => false
  | i, d + 1 => p i || exF p (i + 1) d
theorem exF_iff {p : Nat → Bool} : ∀ {d i : Nat}, exF p i d = true ↔ ∃ j, i ≤ j ∧ j < i + d ∧ p j = true
  | 0, i => by
    simp only [exF, Bool.false_eq_true, false_iff]
    rintro ⟨j, h1, h2, _⟩; omega
  | d + 1, i => by
    simp only [exF, Bool.or_eq_true, exF_iff (d := d) (i := i + 1)]
    constructor
    · rintro (h | ⟨j, h1, h2, h3⟩)
      · exact ⟨i, by omega, by omega, h⟩
      · exact ⟨j, by omega, by omega, h3⟩
    · rintro ⟨j, h1, h2, h3⟩
      by_cases e : j = i
      · subst e; exact .inl h3
      · exact .inr ⟨j, by omega, by omega, h3⟩
theorem exF0 {p : Nat → Bool} {d : Nat} : exF p 0 d = true ↔ ∃ j, j < d ∧ p j = true := by
  rw [exF_iff]
  constructor
  · rintro ⟨j, _, h2, h3⟩; exact ⟨j, by omega, h3⟩
  · rintro ⟨j, h2, h3⟩; exact ⟨j, by omega, by omega, h3⟩
def wkB (P : List (List Int)) (s v i j c : Nat) : Bool := s.testBit c && decide (Wk (P.getD v []) (P.getD i []) (P.getD j []) (P.getD c []))
def prB (P : List (List Int)) (s v i j : Nat) : Bool := (s.testBit i && s.testBit j) && (decide (BetS (P.getD v []) (P.getD i []) (P.getD j [])) || exF (wkB P s v i j) 0 j)
theorem shCovers_l2 {P : List (List Int)} (h : PtsN P) {v s : Nat} (hv : v < P.length) {i j : Nat} (hi : i < P.length) (hj : j < i) (n : Int) (r : Bool)
    (hr : Ev (fun k => spec_shCovers.l1 k P (s : Int) (v : Int) (i : Int) (wrap64 ((j : Int) + 1)) n (i : Int)) r) : ∀ d c : Nat, c + d = j →
    Ev (fun k => spec_shCovers.l2 k P (s : Int) (v : Int) (i : Int) (j : Int) (c : Int) n (i : Int)) (exF (wkB P s v i j) c d || r) := by
  intro d
  have hl7 := h.l7
  induction d with
  | zero =>
    intro c e
    obtain rfl : c = j := by omega
    refine Ev.step (fun k => by rw [spec_shCovers.l2]) ?_
    simp only [show ¬ ((c : Int) < (c : Int)) from by omega, ↓reduceIte]
    exact hr.eq (by simp [exF])
  | succ d ih =>
    intro c e
    have hc : c < P.length := by omega
    have hn := ih (c + 1) (by omega)
    refine Ev.step (fun k => by rw [spec_shCovers.l2]) ?_
    simp only [show ((c : Int) < (j : Int)) from by omega, spIn_eq s c (by omega), Option.bind_some, show (0 : Int) ≤ (v : Int) from by omega, show (v : Int) < (P.length : Int) from by omega, show (0 : Int) ≤ (i : Int) from by omega, show (i : Int) < (P.length : Int) from by omega, show (0 : Int) ≤ (j : Int) from by omega, show (j : Int) < (P.length : Int) from by omega, show (0 : Int) ≤ (c : Int) from by omega, show (c : Int) < (P.length : Int) from by omega, rdL_nat, within3_eq (h.get hi) (h.get (show j < P.length by omega)) (h.get hc) (h.get hv), ↓reduceIte]
    rw [wnext (i := c) (n := 7) (by omega) (by omega)]
    cases hb : s.testBit c with
    | false => simp only [↓reduceIte, Bool.false_eq_true]; exact hn.eq (by simp only [exF, wkB, hb, Bool.false_and, Bool.false_or])
    | true =>
      simp only [↓reduceIte]
      by_cases hw : Wk (P.getD v []) (P.getD i []) (P.getD j []) (P.getD c [])
      · simp only [decide_eq_true hw, ↓reduceIte]; exact (Ev.some _).eq (by simp only [exF, wkB, hb, decide_eq_true hw, Bool.true_and, Bool.true_or])
      · simp only [decide_eq_false hw, ↓reduceIte, Bool.false_eq_true]; exact hn.eq (by simp only [exF, wkB, hb, decide_eq_false hw, Bool.true_and, Bool.false_or])
theorem shCovers_l1 {P : List (List Int)} (h : PtsN P) {v s : Nat} (hv : v < P.length) {i : Nat} (hi : i < P.length) (n : Int) (r : Bool)
    (hr : Ev (fun k => spec_shCovers.l0 k P (s : Int) (v : Int) n (wrap64 ((i : Int) + 1))) r) : ∀ d j : Nat, j + d = i →
    Ev (fun k => spec_shCovers.l1 k P (s : Int) (v : Int) (i : Int) (j : Int) n (i : Int)) (exF (prB P s v i) j d || r) := by
  intro d
  have hl7 := h.l7
  induction d with
  | zero =>
    intro j e
    obtain rfl : j = i := by omega
    refine Ev.step (fun k => by rw [spec_shCovers.l1]) ?_
    simp only [show ¬ ((j : Int) < (j : Int)) from by omega, ↓reduceIte]
    exact hr.eq (by simp [exF])
  | succ d ih =>
    intro j e
    have hj : j < P.length := by omega
    have hn := ih (j + 1) (by omega)
    rw [← wnext (i := j) (n := 7) (by omega) (by omega)] at hn
    have hj2 : ∀ b : Bool, Ev (fun k => spec_shCovers.j2 k P (s : Int) (v : Int) (i : Int) (j : Int) n (i : Int) b) ((!b && (decide (BetS (P.getD v []) (P.getD i []) (P.getD j [])) || exF (wkB P s v i j) 0 j)) || (exF (prB P s v i) (j + 1) d || r)) := by
      intro b
      refine Ev.step (fun k => by rw [spec_shCovers.j2]) ?_
      cases b with
      | true => simp only [↓reduceIte]; exact hn.eq (by simp)
      | false =>
        simp only [↓reduceIte, Bool.false_eq_true, show (0 : Int) ≤ (v : Int) from by omega, show (v : Int) < (P.length : Int) from by omega, show (0 : Int) ≤ (i : Int) from by omega, show (i : Int) < (P.length : Int) from by omega, show (0 : Int) ≤ (j : Int) from by omega, show (j : Int) < (P.length : Int) from by omega, rdL_nat, betS_eq (h.get hi) (h.get hj) (h.get hv), Option.bind_some]
        by_cases hw : BetS (P.getD v []) (P.getD i []) (P.getD j [])
        · simp only [decide_eq_true hw, ↓reduceIte]; exact (Ev.some _).eq (by simp)
        · simp only [decide_eq_false hw, ↓reduceIte, Bool.false_eq_true]
          exact (shCovers_l2 h hv hi (by omega) n _ hn j 0 (by omega)).eq (by simp)
    refine Ev.step (fun k => by rw [spec_shCovers.l1]) ?_
    simp only [show ((j : Int) < (i : Int)) from by omega, spIn_eq s i (by omega), spIn_eq s j (by omega), Option.bind_some, ↓reduceIte]
    cases hb : s.testBit i with
    | false => simp only [↓reduceIte, Bool.false_eq_true]; exact (hj2 true).eq (by simp [exF, prB, hb])
    | true =>
      simp only [↓reduceIte]
      exact (hj2 _).eq (by simp only [exF, prB, hb, Bool.not_not, Bool.true_and, Bool.or_assoc])
theorem shCovers_l0 {P : List (List Int)} (h : PtsN P) {v s : Nat} (hv : v < P.length) : ∀ d i : Nat, i + d = P.length →
    Ev (fun k => spec_shCovers.l0 k P (s : Int) (v : Int) (P.length : Int) (i : Int)) (exF (fun i => exF (prB P s v i) 0 i) i d) := by
  intro d
  have hl7 := h.l7
  induction d with
  | zero =>
    intro i e
    obtain rfl : i = P.length := by omega
    refine Ev.step (fun k => by rw [spec_shCovers.l0]) ?_
    simp only [show ¬ ((P.length : Int) < (P.length : Int)) from by omega, ↓reduceIte]
    exact Ev.some _
  | succ d ih =>
    intro i e
    have hn := ih (i + 1) (by omega)
    rw [← wnext (i := i) (n := 7) (by omega) (by omega)] at hn
    refine Ev.step (fun k => by rw [spec_shCovers.l0]) ?_
    simp only [show ((i : Int) < (P.length : Int)) from by omega, ↓reduceIte]
    exact shCovers_l1 h hv (by omega) _ _ hn i 0 (by omega)
def covS (P : List (List Int)) (s v : Nat) : Bool := s.testBit v || exF (fun i => exF (prB P s v i) 0 i) 0 P.length
theorem shCovers_ev {P : List (List Int)} (h : PtsN P) {v s : Nat} (hv : v < P.length) : Ev (fun k => spec_shCovers.f k P (s : Int) (v : Int)) (covS P s v) := by
  have hl7 := h.l7
  unfold spec_shCovers.f covS
  simp only [spIn_eq s v (by omega), Option.bind_some]
  cases hb : s.testBit v with
  | true => simp only [↓reduceIte]; exact (Ev.some _).eq (by simp)
  | false => simp only [↓reduceIte, Bool.false_eq_true, Bool.false_or]; exact shCovers_l0 h hv P.length 0 (by omega)
/-! ### the same -/
theorem cov_same {P : List (List Int)} (h : PtsN P) {v s : Nat} (hv : v < P.length) (hs : s < 2 ^ P.length) : covI P s v = covS P s v := by
  have hl7 := h.l7
  have hbit : ∀ {i}, i ∈ itemsN s ↔ i < P.length ∧ s.testBit i = true := by
    intro i
    constructor
    · exact fun hi => ⟨items_below hs i hi, (mem_itemsN.1 hi).2⟩
    · exact fun hi => mem_itemsN.2 ⟨by omega, hi.2⟩
  have tri : ∀ {a b c : Nat}, a < P.length → b < P.length → c < P.length → s.testBit a = true → s.testBit b = true → s.testBit c = true → c < b → b < a → Wk (P.getD v []) (P.getD a []) (P.getD b []) (P.getD c []) → covS P s v = true := by
    intro a b c ha hb hc sa sb sc h1 h2 hw
    unfold covS
    rw [Bool.or_eq_true, exF0]
    refine .inr ⟨a, ha, exF0.2 ⟨b, h2, ?_⟩⟩
    unfold prB
    rw [sa, sb, Bool.and_self, Bool.true_and, Bool.or_eq_true, exF0]
    exact .inr ⟨c, h1, by unfold wkB; rw [sc, decide_eq_true hw]; rfl⟩
  have pair : ∀ {a b : Nat}, a < P.length → b < P.length → s.testBit a = true → s.testBit b = true → Bet (P.getD a []) (P.getD b []) (P.getD v []) → covS P s v = true := by
    have pair' : ∀ {a b : Nat}, a < P.length → b < a → s.testBit a = true → s.testBit b = true → Bet (P.getD a []) (P.getD b []) (P.getD v []) → covS P s v = true := by
      intro a b ha h1 sa sb hB
      unfold covS
      rw [Bool.or_eq_true, exF0]
      refine .inr ⟨a, ha, exF0.2 ⟨b, h1, ?_⟩⟩
      unfold prB
      rw [sa, sb, decide_eq_true ((bet_iff _ _ _).1 hB)]; rfl
    intro a b ha hb sa sb hB
    rcases Nat.lt_trichotomy a b with h1 | h1 | h1
    · exact pair' hb h1 sb sa ((bet_swap _ _ _).1 hB)
    · subst h1
      obtain ⟨e0, e1⟩ := bet_one hB
      have := h.inj ha hv (pt_ext (pt_vals (h.get ha)).1 (pt_vals (h.get hv)).1 e0 e1)
      subst this
      unfold covS; rw [sa]; rfl
    · exact pair' ha h1 sa sb hB
  rw [Bool.eq_iff_iff]
  constructor
  · intro hc
    unfold covI at hc
    simp only [List.any_eq_true] at hc
    obtain ⟨a, ha, b, hb, c, hc, ht⟩ := hc
    obtain ⟨ha, sa⟩ := hbit.1 ha
    obtain ⟨hb, sb⟩ := hbit.1 hb
    obtain ⟨hc, sc⟩ := hbit.1 hc
    unfold inTB at ht
    rw [decide_eq_true_eq] at ht
    rcases ht with h1 | h1 | h1 | h1
    · exact pair ha hb sa sb h1
    · exact pair hb hc sb sc h1
    · exact pair hc ha sc sa h1
    · have hab : a ≠ b := by rintro rfl; have := cr_self (P.getD a []) (P.getD v []); unfold Str at h1; omega
      have hbc : b ≠ c := by rintro rfl; have := cr_self (P.getD b []) (P.getD v []); unfold Str at h1; omega
      have hca : c ≠ a := by rintro rfl; have := cr_self (P.getD c []) (P.getD v []); unfold Str at h1; omega
      have w := wk_of_str h1
      have w2 := wk_rot w
      have w3 := wk_rot w2
      rcases Nat.lt_or_ge a b with g1 | g1 <;> rcases Nat.lt_or_ge b c with g2 | g2 <;> rcases Nat.lt_or_ge c a with g3 | g3
      · omega
      · exact tri hc hb ha sc sb sa g1 g2 (wk_swap w2)
      · exact tri hb ha hc sb sa sc g3 g1 (wk_swap w)
      · exact tri hb hc ha sb sc sa (by omega) (by omega) w2
      · exact tri ha hc hb sa sc sb g2 g3 (wk_swap w3)
      · exact tri hc ha hb sc sa sb (by omega) (by omega) w3
      · exact tri ha hb hc sa sb sc (by omega) (by omega) w
      · omega
  · intro hc
    have mk : ∀ {a b c : Nat}, a < P.length → b < P.length → c < P.length → s.testBit a = true → s.testBit b = true → s.testBit c = true → InT (P.getD a []) (P.getD b []) (P.getD c []) (P.getD v []) → covI P s v = true := by
      intro a b c ha hb hc sa sb sc ht
      unfold covI
      simp only [List.any_eq_true]
      exact ⟨a, hbit.2 ⟨ha, sa⟩, b, hbit.2 ⟨hb, sb⟩, c, hbit.2 ⟨hc, sc⟩, by unfold inTB; rw [decide_eq_true_eq]; exact ht⟩
    unfold covS at hc
    rw [Bool.or_eq_true, exF0] at hc
    rcases hc with hc | ⟨a, ha, hc⟩
    · exact mk hv hv hv hc hc hc (.inl (bet_refl _))
    · obtain ⟨b, hb, hc⟩ := exF0.1 hc
      unfold prB at hc
      simp only [Bool.and_eq_true, Bool.or_eq_true, decide_eq_true_eq] at hc
      obtain ⟨⟨sa, sb⟩, hc | hc⟩ := hc
      · exact mk ha (by omega) (by omega) sa sb sb (.inl ((bet_iff _ _ _).2 hc))
      · obtain ⟨c, hcb, hc⟩ := exF0.1 hc
        unfold wkB at hc
        rw [Bool.and_eq_true, decide_eq_true_eq] at hc
        exact mk ha (by omega) (by omega) sa sb hc.1 (inT_of_wk hc.2)
theorem shCovers_ev' {P : List (List Int)} (h : PtsN P) {v s : Nat} (hv : v < P.length) (hs : s < 2 ^ P.length) : Ev (fun k => spec_shCovers.f k P (s : Int) (v : Int)) (covI P s v) :=
  (shCovers_ev h hv).eq (cov_same h hv hs).symm
end Go.Proofs.Ytpliebmaagoahaa.Q
