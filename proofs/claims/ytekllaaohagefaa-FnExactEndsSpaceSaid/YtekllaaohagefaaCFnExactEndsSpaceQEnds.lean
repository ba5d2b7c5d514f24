/- The space of an order that is learnt from both ends: both; conditions: as each theorem states. -/
import Derived.Test.YtekllaaohagefaaCFnExactEndsSpaceQUp
import Derived.Test.YtekllaaohagefaaCFnExactEndsSpaceQPairs
import Derived.Test.YtekllaaohagefaaCFnExactEndsSpaceQGood
import Derived.Test.YtekllaaohagefaaCFnExactEndsSpaceP6
namespace Go.Proofs.Ytekllaaohagefaa.Q
open Go.RowKit Go.Proofs.YtekllaaohagefaaW.PrintWords Go.Proofs.YtekllaaohagefaaW.PrintLast Go.Proofs.YtekllaaohagefaaW.PrintMore Go.Proofs.Ytekllaaohagefaa.P
set_option linter.unusedVariables false
set_option linter.unusedSimpArgs false

/-! ### ways over items below a number -/
/-- From a to b over items below t. -/
def wB (E : Nat → Nat → Bool) : Nat → Nat → Nat → Bool
  | 0, a, b => E a b
  | t + 1, a, b => wB E t a b || (wB E t a t && wB E t t b)
theorem wB_up {E : Nat → Nat → Bool} {t a b : Nat} (h : wB E t a b = true) : wB E (t + 1) a b = true := by simp [wB, h]
theorem wB_lt {E : Nat → Nat → Bool} {m : Nat} (hE : ∀ a b, E a b = true → a < m ∧ b < m) : ∀ {t a b : Nat}, wB E t a b = true → a < m ∧ b < m
  | 0, a, b, h => hE a b h
  | t + 1, a, b, h => by
    simp only [wB, Bool.or_eq_true, Bool.and_eq_true] at h
    rcases h with h | ⟨h1, h2⟩
    · exact wB_lt hE h
    · exact ⟨(wB_lt hE h1).1, (wB_lt hE h2).2⟩
theorem wB_tr {E : Nat → Nat → Bool} : ∀ {t a b c : Nat}, b < t → wB E t a b = true → wB E t b c = true → wB E t a c = true
  | 0, _, _, _, h, _, _ => by omega
  | t + 1, a, b, c, hb, h1, h2 => by
    simp only [wB, Bool.or_eq_true, Bool.and_eq_true] at h1 h2 ⊢
    by_cases e : b = t
    · subst e
      have ha : wB E b a b = true := by
        rcases h1 with h | h
        · exact h
        · exact h.1
      have hc : wB E b b c = true := by
        rcases h2 with h | h
        · exact h
        · exact h.2
      exact .inr ⟨ha, hc⟩
    · have hb' : b < t := by omega
      rcases h1 with h1 | ⟨h1, h1'⟩
      · rcases h2 with h2 | ⟨h2, h2'⟩
        · exact .inl (wB_tr hb' h1 h2)
        · exact .inr ⟨wB_tr hb' h1 h2, h2'⟩
      · rcases h2 with h2 | ⟨h2, h2'⟩
        · exact .inr ⟨h1, wB_tr hb' h1' h2⟩
        · exact .inr ⟨h1, h2'⟩
theorem wB_base {E : Nat → Nat → Bool} : ∀ {t a b : Nat}, E a b = true → wB E t a b = true
  | 0, _, _, h => h
  | t + 1, _, _, h => wB_up (wB_base h)

/-! ### rows of bits -/
def bt (L : List Nat) (a b : Nat) : Bool := (L.getD a 0).testBit b
theorem getD_set' (L : List Nat) (i v a : Nat) (hi : i < L.length) : (L.set i v).getD a 0 = if a = i then v else L.getD a 0 := by
  simp only [List.getD_eq_getElem?_getD, List.getElem?_set]
  by_cases h : i = a
  · subst h; simp [hi]
  · rw [if_neg h, if_neg (fun e => h e.symm)]
theorem castL_set (L : List Nat) (i v : Nat) : (castL L).set i (v : Int) = castL (L.set i v) := by simp [castL, List.map_set]
structure EI (m : Nat) (G : Nat → Nat → Prop) (L : List Nat) : Prop where
  len : L.length = m
  lt : ∀ a, L.getD a 0 < 2 ^ m
  snd : ∀ a b, bt L a b = true → G a b
def SubL (L L' : List Nat) : Prop := ∀ a b, bt L a b = true → bt L' a b = true
theorem EI.upd {m : Nat} {G : Nat → Nat → Prop} (htr : ∀ a b c, G a b → G b c → G a c) {L : List Nat} (h : EI m G L) {i k : Nat} (hi : i < m) (hk : bt L i k = true) :
    EI m G (L.set i (L.getD i 0 ||| L.getD k 0)) ∧ SubL L (L.set i (L.getD i 0 ||| L.getD k 0)) ∧ ∀ b, bt L k b = true → bt (L.set i (L.getD i 0 ||| L.getD k 0)) i b = true := by
  have e := getD_set' L i (L.getD i 0 ||| L.getD k 0)
  have hl := h.len
  refine ⟨⟨by rw [List.length_set]; exact hl, fun a => ?_, fun a b hb => ?_⟩, fun a b hb => ?_, fun b hb => ?_⟩
  · rw [e a (by omega)]
    split
    · exact Nat.or_lt_two_pow (h.lt _) (h.lt _)
    · exact h.lt a
  · unfold bt at hb
    rw [e a (by omega)] at hb
    split at hb
    · rename_i hai
      subst hai
      rw [Nat.testBit_or, Bool.or_eq_true] at hb
      rcases hb with hb | hb
      · exact h.snd _ _ hb
      · exact htr _ _ _ (h.snd _ _ hk) (h.snd _ _ hb)
    · exact h.snd _ _ hb
  · unfold bt
    rw [e a (by omega)]
    split
    · rename_i hai
      subst hai
      rw [Nat.testBit_or, show (L.getD a 0).testBit b = true from hb, Bool.true_or]
    · exact hb
  · unfold bt
    rw [e i (by omega), if_pos rfl, Nat.testBit_or, show (L.getD k 0).testBit b = true from hb, Bool.or_true]
theorem EI.bit_lt {m : Nat} {G : Nat → Nat → Prop} {L : List Nat} (h : EI m G L) {a b : Nat} (hb : bt L a b = true) : a < m ∧ b < m := by
  refine ⟨?_, ?_⟩
  · rcases Nat.lt_or_ge a m with hh | hh
    · exact hh
    · have hn : L.getD a 0 = 0 := by rw [List.getD_eq_getElem?_getD, List.getElem?_eq_none (by rw [h.len]; exact hh)]; rfl
      have hz : bt L a b = false := by unfold bt; rw [hn]; exact Nat.zero_testBit b
      rw [hz] at hb; cases hb
  · rcases Nat.lt_or_ge b m with hh | hh
    · exact hh
    · have := Nat.testBit_lt_two_pow (Nat.lt_of_lt_of_le (h.lt a) (Nat.pow_le_pow_right (by decide) hh))
      rw [show bt L a b = false from this] at hb; cases hb

/-! ### the program: the sweeps -/
theorem rd_rows {m : Nat} {L : List Nat} (h : L.length = m) {i : Nat} (hi : i < m) : rd (castL L) (i : Int) = ((L.getD i 0 : Nat) : Int) := rd_castL L (by omega)
section
variable {m : Nat} (m7 : m ≤ 7) {G : Nat → Nat → Prop} (htr : ∀ a b c, G a b → G b c → G a c) {r : Int × List Int × Bool}
include m7 htr
theorem ends_l3 {i t : Nat} (hi : i < m) (T : List Nat) (hT : ∀ k ∈ T, k < m) (hTl : T.length ≤ 7) : ∀ (rest pre : List Nat) (L : List Nat), pre ++ rest = T → EI m G L → (∀ k ∈ T, bt L i k = true) →
    (∀ L', EI m G L' → SubL L L' → (∀ k ∈ rest, ∀ b, bt L k b = true → bt L' i b = true) → Ev (fun k => impl_EndsSpace.l2 k [(m : Int)] [castL L'] (m : Int) (t : Int) (m : Int) (wrap64 ((i : Int) + 1))) r) →
    Ev (fun k => impl_EndsSpace.l3 k [(m : Int)] [castL L] (i : Int) (m : Int) (t : Int) (m : Int) (i : Int) (castL T) (T.length : Int) (pre.length : Int)) r := by
  intro rest
  have hp2 := pow_le_128 m7
  induction rest with
  | nil =>
    intro pre L e h hk hc
    obtain rfl : pre = T := by simpa using e
    refine Ev.step (fun k => by rw [impl_EndsSpace.l3]) ?_
    simp only [show ¬ ((pre.length : Int) < (pre.length : Int)) from by omega, ↓reduceIte]
    exact hc L h (fun _ _ hb => hb) (by simp)
  | cons q rest ih =>
    intro pre L e h hk hc
    have hlen : T.length = pre.length + (rest.length + 1) := by rw [← e]; simp
    have er : rd (castL T) (pre.length : Int) = (q : Int) := by rw [← e]; exact rd_castL_mid _ _ _
    have hqT : q ∈ T := by rw [← e]; simp
    have hq := hT q hqT
    have hl := h.len
    have e1 : rd_L2 [castL L] 0 = castL L := rfl
    obtain ⟨h1, h2, h3⟩ := h.upd htr hi (hk q hqT)
    have hn := ih (pre ++ [q]) _ (by simp [e]) h1 (fun k hkT => h2 _ _ (hk k hkT)) (fun L' hL' hs hr => hc L' hL' (fun a b hb => hs _ _ (h2 _ _ hb)) (fun k hk' b hb => by
      rcases List.mem_cons.1 hk' with rfl | hk'
      · exact hs _ _ (h3 b hb)
      · exact hr k hk' b (h2 _ _ hb)))
    rw [List.length_append, List.length_singleton] at hn
    have b1 := h.lt i
    have b2 := h.lt q
    refine Ev.step (fun k => by rw [impl_EndsSpace.l3]) ?_
    simp only [show ((pre.length : Int) < (T.length : Int)) from by omega, show (0 : Int) ≤ (pre.length : Int) from by omega, castL_length, er, List.length_singleton, show ((0 : Int) < ((1 : Nat) : Int)) from by omega, e1, show (0 : Int) ≤ (i : Int) from by omega, show (0 : Int) ≤ (q : Int) from by omega, show ((i : Int) < (L.length : Int)) from by omega, show ((q : Int) < (L.length : Int)) from by omega, rd_rows hl hi, rd_rows hl hq, bOr (show L.getD i 0 < 2 ^ 62 from by omega) (show L.getD q 0 < 2 ^ 62 from by omega), Int.toNat_natCast, castL_set, show ((0 : Int)).toNat = 0 from rfl, List.set_cons_zero, ↓reduceIte]
    rw [wnext (n := T.length) (by omega) (by omega)]
    exact hn
theorem ends_l2 {t : Nat} : ∀ (d i : Nat) (L : List Nat), i + d = m → EI m G L →
    (∀ L', EI m G L' → SubL L L' → (∀ a, i ≤ a → a < m → ∀ k, bt L a k = true → ∀ b, bt L k b = true → bt L' a b = true) → Ev (fun k => impl_EndsSpace.l1 k [(m : Int)] [castL L'] (m : Int) (wrap64 ((t : Int) + 1))) r) →
    Ev (fun k => impl_EndsSpace.l2 k [(m : Int)] [castL L] (m : Int) (t : Int) (m : Int) (i : Int)) r := by
  intro d
  have hp2 := pow_le_128 m7
  induction d with
  | zero =>
    intro i L e h hc
    obtain rfl : i = m := by omega
    refine Ev.step (fun k => by rw [impl_EndsSpace.l2]) ?_
    simp only [show ¬ ((i : Int) < (i : Int)) from by omega, ↓reduceIte]
    exact hc L h (fun _ _ hb => hb) (fun a h1 h2 => by omega)
  | succ d ih =>
    intro i L e h hc
    have hi : i < m := by omega
    have hl := h.len
    have e1 : rd_L2 [castL L] 0 = castL L := rfl
    have b1 := h.lt i
    refine Ev.step (fun k => by rw [impl_EndsSpace.l2]) ?_
    simp only [show ((i : Int) < (m : Int)) from by omega, show (0 : Int) ≤ (i : Int) from by omega, castL_length, List.length_singleton, show ((0 : Int) < ((1 : Nat) : Int)) from by omega, e1, show ((i : Int) < (L.length : Int)) from by omega, rd_rows hl hi, ↓reduceIte]
    refine Ev.bind (items_ev (show L.getD i 0 < 128 from by omega)) ?_
    have hT : ∀ k ∈ itemsN (L.getD i 0), bt L i k = true := fun k hk => (mem_itemsN.1 hk).2
    have h3 := ends_l3 m7 htr (r := r) (t := t) hi (itemsN (L.getD i 0)) (fun k hk => (h.bit_lt (hT k hk)).2) (by have := List.length_filter_le (L.getD i 0).testBit (List.range 7); simpa [itemsN] using this) (itemsN (L.getD i 0)) [] L rfl h hT (fun L1 g1 s1 r1 => by
      rw [wnext (n := m) hi (by omega)]
      refine ih (i + 1) L1 (by omega) g1 (fun L' g2 s2 r2 => hc L' g2 (fun a b hb => s2 _ _ (s1 _ _ hb)) (fun a ha1 ha2 k hk b hb => ?_))
      by_cases ha : a = i
      · subst ha
        have hkm := (h.bit_lt hk).2
        exact s2 _ _ (r1 k (mem_itemsN.2 ⟨by omega, hk⟩) b hb)
      · exact r2 a (by omega) ha2 k (s1 _ _ hk) b (s1 _ _ hb))
    simpa using h3
theorem ends_l1 {E : Nat → Nat → Bool} (hE : ∀ a b, E a b = true → a < m ∧ b < m) : ∀ (d t : Nat) (L : List Nat), t + d = m → EI m G L → (∀ a b, wB E t a b = true → bt L a b = true) →
    (∀ L', EI m G L' → (∀ a b, wB E m a b = true → bt L' a b = true) → Ev (fun k => impl_EndsSpace.l4 k [(m : Int)] [castL L'] (m : Int) 0) r) →
    Ev (fun k => impl_EndsSpace.l1 k [(m : Int)] [castL L] (m : Int) (t : Int)) r := by
  intro d
  have e0 : rd [(m : Int)] 0 = (m : Int) := rfl
  induction d with
  | zero =>
    intro t L e h hw hc
    obtain rfl : t = m := by omega
    refine Ev.step (fun k => by rw [impl_EndsSpace.l1]) ?_
    simp only [show ¬ ((t : Int) < (t : Int)) from by omega, List.length_singleton, show ((0 : Int) < ((1 : Nat) : Int)) from by omega, e0, ↓reduceIte]
    exact hc L h hw
  | succ d ih =>
    intro t L e h hw hc
    refine Ev.step (fun k => by rw [impl_EndsSpace.l1]) ?_
    simp only [show ((t : Int) < (m : Int)) from by omega, List.length_singleton, show ((0 : Int) < ((1 : Nat) : Int)) from by omega, e0, ↓reduceIte]
    have h2 := ends_l2 m7 htr (r := r) (t := t) m 0 L (by omega) h (fun L' g s q => by
      rw [wnext (n := m) (by omega) (by omega)]
      refine ih (t + 1) L' (by omega) g (fun a b hab => ?_) hc
      simp only [wB, Bool.or_eq_true, Bool.and_eq_true] at hab
      rcases hab with hab | ⟨h1, h2⟩
      · exact s _ _ (hw _ _ hab)
      · exact q a (by omega) (wB_lt hE h1).1 t (hw _ _ h1) b (hw _ _ h2))
    simpa using h2
end
theorem ends_l4 {m : Nat} (m7 : m ≤ 7) {G : Nat → Nat → Bool} {L : List Nat} (h : EI m (fun a b => G a b = true) L) (hG : ∀ a b, bt L a b = G a b) {r : Int × List Int × Bool} (hbad : ∀ j, j < m → G j j = true → r = (0, [], false))
    (hgood : (∀ j, j < m → G j j = false) → Ev (fun k => (impl_those__EndsSpace_1.f k (m : Int) [(m : Int)] [castL L]).bind fun bt => (some (bt.1, bt.2, true))) r) : ∀ d i : Nat, i + d = m → (∀ j, j < i → G j j = false) →
    Ev (fun k => impl_EndsSpace.l4 k [(m : Int)] [castL L] (m : Int) (i : Int)) r := by
  intro d
  have hp2 := pow_le_128 m7
  have e0 : rd [(m : Int)] 0 = (m : Int) := rfl
  have e1 : rd_L2 [castL L] 0 = castL L := rfl
  have hl := h.len
  induction d with
  | zero =>
    intro i e hn
    obtain rfl : i = m := by omega
    refine Ev.step (fun k => by rw [impl_EndsSpace.l4]) ?_
    simp only [show ¬ ((i : Int) < (i : Int)) from by omega, List.length_singleton, show ((0 : Int) < ((1 : Nat) : Int)) from by omega, e0, ↓reduceIte]
    exact hgood hn
  | succ d ih =>
    intro i e hn
    have hi : i < m := by omega
    have b1 := h.lt i
    refine Ev.step (fun k => by rw [impl_EndsSpace.l4]) ?_
    simp only [show ((i : Int) < (m : Int)) from by omega, show (0 : Int) ≤ (i : Int) from by omega, castL_length, List.length_singleton, show ((0 : Int) < ((1 : Nat) : Int)) from by omega, e1, show ((i : Int) < (L.length : Int)) from by omega, rd_castL L (show i < L.length from by omega), bitAnd (show L.getD i 0 < 2 ^ 62 from by omega) (show i ≤ 64 from by omega), ↓reduceIte]
    have hb : (L.getD i 0).testBit i = G i i := hG i i
    cases hg : G i i with
    | true =>
      rw [hg] at hb
      simp only [hb, ↓reduceIte]
      rw [hbad i hi hg]
      exact Ev.some _
    | false =>
      rw [hg] at hb
      simp only [hb, Bool.false_eq_true, show ¬ ((0 : Int) = 1) from by omega, ↓reduceIte]
      rw [wnext (n := m) hi (by omega)]
      exact ih (i + 1) (by omega) (fun j hj => by
        by_cases h' : j = i
        · subst h'; exact hg
        · exact hn j (by omega))

/-! ### which sets fit -/
def lowB (G : Nat → Nat → Bool) (x i c : Nat) : Bool := (List.range c).any fun k => !x.testBit k && G k i
def uppB (G : Nat → Nat → Bool) (x i c : Nat) : Bool := (List.range c).any fun k => !x.testBit k && G i k
def okB (m : Nat) (G : Nat → Nat → Bool) (x i : Nat) : Bool := !(lowB G x i m && uppB G x i m)
theorem lowB_succ (G : Nat → Nat → Bool) (x i c : Nat) : lowB G x i (c + 1) = (lowB G x i c || (!x.testBit c && G c i)) := by simp [lowB, List.range_succ]
theorem uppB_succ (G : Nat → Nat → Bool) (x i c : Nat) : uppB G x i (c + 1) = (uppB G x i c || (!x.testBit c && G i c)) := by simp [uppB, List.range_succ]
theorem iteBeq1 (b : Bool) : (((if b = true then (1 : Int) else 0)) == 1) = b := by cases b <;> rfl
theorem ends1_l1 {m : Nat} (m7 : m ≤ 7) {G : Nat → Nat → Bool} {L : List Nat} (h : EI m (fun a b => G a b = true) L) (hG : ∀ a b, bt L a b = G a b) {x : Nat} (hx : x < 128) {i : Nat} (hi : i < m) (T : List Int) (pos : Int) (r : Bool)
    (hc : Ev (fun k => if lowB G x i m = true then (if uppB G x i m = true then some false else impl_EndsSpace_1.l0 k (x : Int) [(m : Int)] [castL L] T (T.length : Int) (wrap64 (pos + 1))) else impl_EndsSpace_1.l0 k (x : Int) [(m : Int)] [castL L] T (T.length : Int) (wrap64 (pos + 1))) r) : ∀ d c : Nat, c + d = m →
    Ev (fun k => impl_EndsSpace_1.l1 k (x : Int) [(m : Int)] [castL L] (i : Int) (lowB G x i c) (uppB G x i c) T (T.length : Int) pos (m : Int) (c : Int)) r := by
  intro d
  have hp2 := pow_le_128 m7
  have e1 : rd_L2 [castL L] 0 = castL L := rfl
  have hl := h.len
  induction d with
  | zero =>
    intro c e
    obtain rfl : c = m := by omega
    refine Ev.step (fun k => by rw [impl_EndsSpace_1.l1]) ?_
    simp only [show ¬ ((c : Int) < (c : Int)) from by omega, ↓reduceIte]
    exact hc
  | succ d ih =>
    intro c e
    have hcm : c < m := by omega
    have hn := ih (c + 1) (by omega)
    rw [lowB_succ, uppB_succ] at hn
    have b1 := h.lt i
    have b2 := h.lt c
    have g1 : (L.getD c 0).testBit i = G c i := hG c i
    have g2 : (L.getD i 0).testBit c = G i c := hG i c
    refine Ev.step (fun k => by rw [impl_EndsSpace_1.l1]) ?_
    simp only [show ((c : Int) < (m : Int)) from by omega, show (0 : Int) ≤ (c : Int) from by omega, show (0 : Int) ≤ (i : Int) from by omega, castL_length, List.length_singleton, show ((0 : Int) < ((1 : Nat) : Int)) from by omega, e1, show ((i : Int) < (L.length : Int)) from by omega, show ((c : Int) < (L.length : Int)) from by omega, rd_castL L (show i < L.length from by omega), rd_castL L (show c < L.length from by omega), bitAnd (show x < 2 ^ 62 from by omega) (show c ≤ 64 from by omega), bitAnd (show L.getD i 0 < 2 ^ 62 from by omega) (show c ≤ 64 from by omega), bitAnd (show L.getD c 0 < 2 ^ 62 from by omega) (show i ≤ 64 from by omega), g1, g2, iteBeq1, wnext (n := m) hcm (by omega), ↓reduceIte]
    cases hb : x.testBit c with
    | true =>
      rw [hb] at hn
      simp only [↓reduceIte, show ¬ ((1 : Int) = 0) from by omega]
      simpa using hn
    | false =>
      rw [hb] at hn
      simp only [Bool.false_eq_true, ↓reduceIte]
      cases hlo : lowB G x i c <;> cases hup : uppB G x i c <;> rw [hlo, hup] at hn <;> simpa using hn
theorem ends1_l0 {m : Nat} (m7 : m ≤ 7) {G : Nat → Nat → Bool} {L : List Nat} (h : EI m (fun a b => G a b = true) L) (hG : ∀ a b, bt L a b = G a b) {x : Nat} (hx : x < 128) (T : List Nat) (hT : ∀ i ∈ T, i < m) (hTl : T.length ≤ 7) : ∀ rest pre : List Nat, pre ++ rest = T →
    Ev (fun k => impl_EndsSpace_1.l0 k (x : Int) [(m : Int)] [castL L] (castL T) (T.length : Int) (pre.length : Int)) (rest.all (okB m G x)) := by
  intro rest
  have e0 : rd [(m : Int)] 0 = (m : Int) := rfl
  induction rest with
  | nil =>
    intro pre e
    obtain rfl : pre = T := by simpa using e
    refine Ev.step (fun k => by rw [impl_EndsSpace_1.l0]) ?_
    simp only [show ¬ ((pre.length : Int) < (pre.length : Int)) from by omega, ↓reduceIte]
    exact Ev.some _
  | cons q rest ih =>
    intro pre e
    have hlen : T.length = pre.length + (rest.length + 1) := by rw [← e]; simp
    have er : rd (castL T) (pre.length : Int) = (q : Int) := by rw [← e]; exact rd_castL_mid _ _ _
    have hq := hT q (by rw [← e]; simp)
    have hn := ih (pre ++ [q]) (by simp [e])
    rw [List.length_append, List.length_singleton, ← wnext (n := T.length) (show pre.length < T.length by omega) (by omega)] at hn
    refine Ev.step (fun k => by rw [impl_EndsSpace_1.l0]) ?_
    simp only [show ((pre.length : Int) < (T.length : Int)) from by omega, show (0 : Int) ≤ (pre.length : Int) from by omega, castL_length, er, List.length_singleton, show ((0 : Int) < ((1 : Nat) : Int)) from by omega, e0, ↓reduceIte]
    have h1 := ends1_l1 m7 h hG hx hq (castL T) (pre.length : Int) ((q :: rest).all (okB m G x)) (by
      rw [castL_length, List.all_cons]
      unfold okB
      cases hlo : lowB G x q m <;> cases hup : uppB G x q m <;> simp only [Bool.false_eq_true, ↓reduceIte, Bool.and_true, Bool.and_false, Bool.not_true, Bool.not_false, Bool.true_and, Bool.false_and]
      · exact hn
      · exact hn
      · exact hn
      · exact Ev.some _) m 0 (by omega)
    rw [castL_length] at h1
    simpa [lowB, uppB] using h1
def fitB (m : Nat) (G : Nat → Nat → Bool) (x : Nat) : Bool := (itemsN x).all (okB m G x)
theorem ends1_ev {m : Nat} (m7 : m ≤ 7) {G : Nat → Nat → Bool} {L : List Nat} (h : EI m (fun a b => G a b = true) L) (hG : ∀ a b, bt L a b = G a b) {x : Nat} (hx : x < 2 ^ m) :
    Ev (fun k => impl_EndsSpace_1.f k (x : Int) [(m : Int)] [castL L]) (fitB m G x) := by
  have hp2 := pow_le_128 m7
  unfold impl_EndsSpace_1.f
  refine Ev.bind (items_ev (show x < 128 from by omega)) ?_
  have h0 := ends1_l0 m7 h hG (show x < 128 from by omega) (itemsN x) (fun i hi => by
    rcases Nat.lt_or_ge i m with hh | hh
    · exact hh
    · have := Nat.testBit_lt_two_pow (Nat.lt_of_lt_of_le hx (Nat.pow_le_pow_right (by decide) hh))
      rw [(mem_itemsN.1 hi).2] at this; cases this) (by have := List.length_filter_le x.testBit (List.range 7); simpa [itemsN] using this) (itemsN x) [] rfl
  simpa [fitB] using h0
theorem those_ends_loop {m : Nat} (m7 : m ≤ 7) (p : Nat → Bool) (u : List Int) (q : List (List Int)) (hp : ∀ x : Nat, x < 2 ^ m → Ev (fun k => impl_EndsSpace_1.f k (x : Int) u q) (p x)) : ∀ d c : Nat, c + d = 2 ^ m →
    Ev (fun k => impl_those__EndsSpace_1.l0 k ((2 ^ m : Nat) : Int) (c : Int) u q (m : Int) (castL (upN p c))) ((m : Int), castL (upN p (2 ^ m))) := by
  have hp2 := pow_le_128 m7
  intro d
  induction d with
  | zero =>
    intro c h
    obtain rfl : c = 2 ^ m := by omega
    refine Ev.step (fun k => by rw [impl_those__EndsSpace_1.l0]) ?_
    simp only [show ¬ (((2 ^ m : Nat) : Int) < ((2 ^ m : Nat) : Int)) from by omega, ↓reduceIte]
    exact Ev.some _
  | succ d ih =>
    intro c h
    have hc : c < 2 ^ m := by omega
    have hn := ih (c + 1) (by omega)
    rw [upN_succ] at hn
    have hl := upN_le p c
    refine Ev.step (fun k => by rw [impl_those__EndsSpace_1.l0]) ?_
    simp only [show ((c : Int) < ((2 ^ m : Nat) : Int)) from by omega, ↓reduceIte]
    refine Ev.bind (hp c hc) ?_
    rw [wnext (n := 2 ^ m) hc (by omega)]
    by_cases hpc : p c = true
    · simp only [hpc, ↓reduceIte, castL_length, show (upN p c).length < 17592186044416 from by omega, castL_snoc] at hn ⊢
      exact hn
    · simp only [hpc, ↓reduceIte] at hn ⊢
      exact hn
theorem those_ends_ev {m : Nat} (m7 : m ≤ 7) (p : Nat → Bool) (u : List Int) (q : List (List Int)) (hp : ∀ x : Nat, x < 2 ^ m → Ev (fun k => impl_EndsSpace_1.f k (x : Int) u q) (p x)) :
    Ev (fun k => impl_those__EndsSpace_1.f k (m : Int) u q) ((m : Int), castL (upN p (2 ^ m))) := by
  unfold impl_those__EndsSpace_1.f
  simp only [show (0 : Int) ≤ (m : Int) from by omega, shl1 (show m ≤ 61 from by omega), ↓reduceIte]
  simpa [upN, castL_nil] using those_ends_loop m7 p u q hp (2 ^ m) 0 (by omega)

/-! ### rows out of pairs -/
theorem set_bit {m : Nat} {L : List Nat} (hl : L.length = m) (hlt : ∀ a, L.getD a 0 < 2 ^ m) {a b : Nat} (ha : a < m) (hb : b < m) :
    (L.set a (L.getD a 0 ||| 2 ^ b)).length = m ∧ (∀ c, (L.set a (L.getD a 0 ||| 2 ^ b)).getD c 0 < 2 ^ m) ∧ ∀ c d, bt (L.set a (L.getD a 0 ||| 2 ^ b)) c d = (bt L c d || (decide (c = a) && decide (d = b))) := by
  have e := getD_set' L a (L.getD a 0 ||| 2 ^ b)
  have h2 : 2 ^ b < 2 ^ m := Nat.pow_lt_pow_right (by decide) hb
  refine ⟨by rw [List.length_set]; exact hl, fun c => ?_, fun c d => ?_⟩
  · rw [e c (by omega)]
    split
    · exact Nat.or_lt_two_pow (hlt _) h2
    · exact hlt c
  · unfold bt
    rw [e c (by omega)]
    by_cases hc : c = a
    · subst hc
      rw [if_pos rfl, Nat.testBit_or, Nat.testBit_two_pow]
      simp [eq_comm]
    · simp [hc]
def EP (P : List (List Int)) (a b : Nat) : Bool := decide ([(a : Int), (b : Int)] ∈ P)
theorem EP_snoc (P : List (List Int)) (x y a b : Nat) : EP (P ++ [[(x : Int), (y : Int)]]) a b = (EP P a b || (decide (a = x) && decide (b = y))) := by
  unfold EP
  rw [Bool.eq_iff_iff]
  simp only [List.mem_append, List.mem_singleton, List.cons.injEq, and_true, decide_eq_true_eq, Bool.or_eq_true, Bool.and_eq_true]
  constructor
  · rintro (h | ⟨h1, h2⟩)
    · exact .inl h
    · exact .inr ⟨by omega, by omega⟩
  · rintro (h | ⟨h1, h2⟩)
    · exact .inl h
    · exact .inr ⟨by omega, by omega⟩
theorem EP_lt {m : Nat} {P : List (List Int)} (hp : ∀ r ∈ P, pairB (m : Int) r = true) {a b : Nat} (h : EP P a b = true) : a < m ∧ b < m := by
  unfold EP at h
  rw [decide_eq_true_eq] at h
  obtain ⟨a', b', e, h1, h2, _⟩ := pairB_of (hp _ h)
  injection e with e1 e2
  injection e2 with e2 _
  exact ⟨by omega, by omega⟩
theorem ends_l0 {m : Nat} (m7 : m ≤ 7) (P : List (List Int)) (hl : P.length ≤ 1048576) (hp : ∀ r ∈ P, pairB (m : Int) r = true) {r : Int × List Int × Bool}
    (hc : ∀ L : List Nat, L.length = m → (∀ a, L.getD a 0 < 2 ^ m) → (∀ a b, bt L a b = EP P a b) → Ev (fun k => impl_EndsSpace.l1 k [(m : Int)] [castL L] (m : Int) 0) r) : ∀ (rest pre : List (List Int)) (L : List Nat), pre ++ rest = P →
    L.length = m → (∀ a, L.getD a 0 < 2 ^ m) → (∀ a b, bt L a b = EP pre a b) → Ev (fun k => impl_EndsSpace.l0 k [(m : Int)] [castL L] P (P.length : Int) (pre.length : Int)) r := by
  intro rest
  have e0 : rd [(m : Int)] 0 = (m : Int) := rfl
  have hp2 := pow_le_128 m7
  induction rest with
  | nil =>
    intro pre L h hL hlt hb
    obtain rfl : pre = P := by simpa using h
    refine Ev.step (fun k => by rw [impl_EndsSpace.l0]) ?_
    simp only [show ¬ ((pre.length : Int) < (pre.length : Int)) from by omega, List.length_singleton, show ((0 : Int) < ((1 : Nat) : Int)) from by omega, e0, ↓reduceIte]
    exact hc L hL hlt hb
  | cons q rest ih =>
    intro pre L h hL hlt hb
    have hlen : P.length = pre.length + (rest.length + 1) := by rw [← h]; simp
    have e : rd_L2 P (pre.length : Int) = q := by rw [← h]; exact rdL_mid _ _ _
    obtain ⟨x, y, rfl, hx, hy, _⟩ := pairB_of (hp q (by rw [← h]; simp))
    have ex : rd [(x : Int), (y : Int)] 0 = (x : Int) := rfl
    have ey : rd [(x : Int), (y : Int)] 1 = (y : Int) := rfl
    have e1 : rd_L2 [castL L] 0 = castL L := rfl
    have b1 := hlt x
    have h2 : 2 ^ y < 2 ^ m := Nat.pow_lt_pow_right (by decide) hy
    obtain ⟨g1, g2, g3⟩ := set_bit hL hlt hx hy
    have hn := ih (pre ++ [[(x : Int), (y : Int)]]) _ (by simp [h]) g1 g2 (fun a b => by rw [g3, EP_snoc, hb])
    rw [List.length_append, List.length_singleton] at hn
    refine Ev.step (fun k => by rw [impl_EndsSpace.l0]) ?_
    simp only [show ((pre.length : Int) < (P.length : Int)) from by omega, show (0 : Int) ≤ (pre.length : Int) from by omega, e, ex, ey, e1, castL_length, List.length_cons, List.length_nil, show ((0 : Int) < ((0 + 1 : Nat) : Int)) from by omega, show ((0 : Int) < ((0 + 1 + 1 : Nat) : Int)) from by omega, show ((1 : Int) < ((0 + 1 + 1 : Nat) : Int)) from by omega, show (0 : Int) ≤ (x : Int) from by omega, show (0 : Int) ≤ (y : Int) from by omega, show ((x : Int) < (L.length : Int)) from by omega, rd_castL L (show x < L.length from by omega), shl1 (show y ≤ 61 from by omega), bOr (show L.getD x 0 < 2 ^ 62 from by omega) (show 2 ^ y < 2 ^ 62 from by omega), Int.toNat_natCast, castL_set, show ((0 : Int)).toNat = 0 from rfl, List.set_cons_zero, ↓reduceIte]
    rw [wnext (n := P.length) (by omega) (by omega)]
    exact hn

/-! ### the reference -/
theorem sends_l0 {m : Nat} (m1 : 1 ≤ m) (m7 : m ≤ 7) (P : List (List Int)) (hl : P.length ≤ 1048576) {r : Int × List Int × Bool} (hbad : P.all (pairB (m : Int)) = false → r = (0, [], false))
    (hc : P.all (pairB (m : Int)) = true → ∀ L : List Nat, L.length = m → (∀ a, L.getD a 0 < 2 ^ m) → (∀ a b, bt L a b = EP P b a) → Ev (fun k => spec_EndsSpace.l1 k (m : Int) (castL L) 0) r) : ∀ (rest pre : List (List Int)) (L : List Nat), pre ++ rest = P → pre.all (pairB (m : Int)) = true →
    L.length = m → (∀ a, L.getD a 0 < 2 ^ m) → (∀ a b, bt L a b = EP pre b a) → Ev (fun k => spec_EndsSpace.l0 k (m : Int) (castL L) P (P.length : Int) (pre.length : Int)) r := by
  intro rest
  have hw : wrap64 ((m : Int) - 1) = (m : Int) - 1 := w64 (by omega) (by omega)
  have hp2 := pow_le_128 m7
  induction rest with
  | nil =>
    intro pre L h hpre hL hlt hb
    obtain rfl : pre = P := by simpa using h
    refine Ev.step (fun k => by rw [spec_EndsSpace.l0]) ?_
    simp only [show ¬ ((pre.length : Int) < (pre.length : Int)) from by omega, ↓reduceIte]
    exact hc hpre L hL hlt hb
  | cons q rest ih =>
    intro pre L h hpre hL hlt hb
    have hlen : P.length = pre.length + (rest.length + 1) := by rw [← h]; simp
    have e : rd_L2 P (pre.length : Int) = q := by rw [← h]; exact rdL_mid _ _ _
    have hno : pairB (m : Int) q = false → r = (0, [], false) := fun hq => hbad (by rw [← h]; simp [hq])
    refine Ev.step (fun k => by rw [spec_EndsSpace.l0]) ?_
    simp only [show ((pre.length : Int) < (P.length : Int)) from by omega, show (0 : Int) ≤ (pre.length : Int) from by omega, e, hw, ↓reduceIte]
    cases hq : pairB (m : Int) q with
    | true =>
      obtain ⟨x, y, rfl, hx, hy, hxy⟩ := pairB_of hq
      have ex : rd [(x : Int), (y : Int)] 0 = (x : Int) := rfl
      have ey : rd [(x : Int), (y : Int)] 1 = (y : Int) := rfl
      have b1 := hlt y
      have h2 : 2 ^ x < 2 ^ m := Nat.pow_lt_pow_right (by decide) hx
      obtain ⟨g1, g2, g3⟩ := set_bit hL hlt hy hx
      have hn := ih (pre ++ [[(x : Int), (y : Int)]]) _ (by simp [h]) (by rw [List.all_append, hpre]; simpa using hq) g1 g2 (fun a b => by rw [g3, EP_snoc, hb, Bool.and_comm (decide (a = y))])
      rw [List.length_append, List.length_singleton] at hn
      simp only [List.length_cons, List.length_nil, show (((0 + 1 + 1 : Nat) : Int) = 2) from rfl, ↓reduceIte]
      refine Ev.bind (l1All_ev [(x : Int), (y : Int)] (by simp) 0 ((m : Int) - 1)) ?_
      have ht : ([(x : Int), (y : Int)].all fun z => decide (0 ≤ z ∧ z ≤ (m : Int) - 1)) = true := by
        simp only [List.all_cons, List.all_nil, Bool.and_true, Bool.and_eq_true, decide_eq_true_eq]
        exact ⟨⟨by omega, by omega⟩, ⟨by omega, by omega⟩⟩
      simp only [ht, show ((0 : Int) < 2) from by omega, show ((1 : Int) < 2) from by omega, ex, ey, show ¬ ((x : Int) = (y : Int)) from by omega, castL_length, show (0 : Int) ≤ (x : Int) from by omega, show (0 : Int) ≤ (y : Int) from by omega, show ((y : Int) < (L.length : Int)) from by omega, rd_castL L (show y < L.length from by omega), shl1 (show x ≤ 61 from by omega), bOr (show L.getD y 0 < 2 ^ 62 from by omega) (show 2 ^ x < 2 ^ 62 from by omega), Int.toNat_natCast, castL_set, ↓reduceIte]
      rw [wnext (n := P.length) (by omega) (by omega)]
      exact hn
    | false =>
      rw [hno hq]
      by_cases hl2 : q.length = 2
      · match q, hl2, hq with
        | [a, b], _, hq =>
          have ea : rd [a, b] 0 = a := rfl
          have eb : rd [a, b] 1 = b := rfl
          simp only [List.length_cons, List.length_nil, ea, eb, show (((0 + 1 + 1 : Nat) : Int) = 2) from rfl, show ((0 : Int) < 2) from by omega, show ((1 : Int) < 2) from by omega, ↓reduceIte]
          refine Ev.bind (l1All_ev [a, b] (by simp) 0 ((m : Int) - 1)) ?_
          by_cases hab : (0 ≤ a ∧ a ≤ (m : Int) - 1) ∧ (0 ≤ b ∧ b ≤ (m : Int) - 1)
          · have ht : ([a, b].all fun x => decide (0 ≤ x ∧ x ≤ (m : Int) - 1)) = true := by simp [hab]
            have he : a = b := by
              simp only [pairB, decide_eq_false_iff_not] at hq
              by_cases h' : a = b
              · exact h'
              · exact absurd ⟨hab.1, hab.2, h'⟩ hq
            subst he
            simp only [ht, ↓reduceIte]
            exact Ev.some _
          · have ht : ([a, b].all fun x => decide (0 ≤ x ∧ x ≤ (m : Int) - 1)) = false := by
              rw [Bool.eq_false_iff]
              intro hh
              simp only [List.all_cons, List.all_nil, Bool.and_true, Bool.and_eq_true, decide_eq_true_eq] at hh
              exact hab hh
            simp only [ht, ↓reduceIte, Bool.false_eq_true]
            exact Ev.some _
      · simp only [show ¬ ((q.length : Int) = 2) from by omega, ↓reduceIte]
        exact Ev.some _
section
variable {m : Nat} (m7 : m ≤ 7) {G : Nat → Nat → Prop} (htr : ∀ a b c, G a b → G b c → G a c) {r : Int × List Int × Bool}
include m7 htr
theorem sends_l2 {t : Nat} (ht : t < m) : ∀ (d i : Nat) (L : List Nat), i + d = m → EI m G L →
    (∀ L', EI m G L' → SubL L L' → (∀ a, i ≤ a → a < m → bt L a t = true → ∀ b, bt L t b = true → bt L' a b = true) → Ev (fun k => spec_EndsSpace.l1 k (m : Int) (castL L') (wrap64 ((t : Int) + 1))) r) →
    Ev (fun k => spec_EndsSpace.l2 k (m : Int) (castL L) (t : Int) (m : Int) (i : Int)) r := by
  intro d
  have hp2 := pow_le_128 m7
  induction d with
  | zero =>
    intro i L e h hc
    obtain rfl : i = m := by omega
    refine Ev.step (fun k => by rw [spec_EndsSpace.l2]) ?_
    simp only [show ¬ ((i : Int) < (i : Int)) from by omega, ↓reduceIte]
    exact hc L h (fun _ _ hb => hb) (fun a h1 h2 => by omega)
  | succ d ih =>
    intro i L e h hc
    have hi : i < m := by omega
    have hl := h.len
    have b1 := h.lt i
    have b2 := h.lt t
    refine Ev.step (fun k => by rw [spec_EndsSpace.l2]) ?_
    simp only [show ((i : Int) < (m : Int)) from by omega, show (0 : Int) ≤ (i : Int) from by omega, show (0 : Int) ≤ (t : Int) from by omega, castL_length, show ((i : Int) < (L.length : Int)) from by omega, show ((t : Int) < (L.length : Int)) from by omega, rd_castL L (show i < L.length from by omega), rd_castL L (show t < L.length from by omega), spIn_eq _ t (show t ≤ 64 from by omega), Option.bind_some, wnext (n := m) hi (by omega), ↓reduceIte]
    cases hb : (L.getD i 0).testBit t with
    | true =>
      have hk : bt L i t = true := hb
      obtain ⟨h1, h2, h3⟩ := h.upd htr hi hk
      simp only [bOr (show L.getD i 0 < 2 ^ 62 from by omega) (show L.getD t 0 < 2 ^ 62 from by omega), Int.toNat_natCast, castL_set, ↓reduceIte]
      refine ih (i + 1) _ (by omega) h1 (fun L' g s q => hc L' g (fun a b hb => s _ _ (h2 _ _ hb)) (fun a ha1 ha2 hat b hbb => ?_))
      by_cases ha : a = i
      · subst ha; exact s _ _ (h3 b hbb)
      · exact q a (by omega) ha2 (h2 _ _ hat) b (h2 _ _ hbb)
    | false =>
      simp only [Bool.false_eq_true, ↓reduceIte]
      refine ih (i + 1) L (by omega) h (fun L' g s q => hc L' g s (fun a ha1 ha2 hat b hbb => ?_))
      by_cases ha : a = i
      · subst ha; rw [show bt L a t = false from hb] at hat; cases hat
      · exact q a (by omega) ha2 hat b hbb
theorem sends_l1 {E : Nat → Nat → Bool} (hE : ∀ a b, E a b = true → a < m ∧ b < m) : ∀ (d t : Nat) (L : List Nat), t + d = m → EI m G L → (∀ a b, wB E t a b = true → bt L b a = true) →
    (∀ L', EI m G L' → (∀ a b, wB E m a b = true → bt L' b a = true) → Ev (fun k => spec_EndsSpace.l3 k (m : Int) (castL L') (castL L') (m : Int) 0) r) →
    Ev (fun k => spec_EndsSpace.l1 k (m : Int) (castL L) (t : Int)) r := by
  intro d
  induction d with
  | zero =>
    intro t L e h hw hc
    obtain rfl : t = m := by omega
    have hl := h.len
    refine Ev.step (fun k => by rw [spec_EndsSpace.l1]) ?_
    simp only [show ¬ ((t : Int) < (t : Int)) from by omega, castL_length, hl, ↓reduceIte]
    exact hc L h hw
  | succ d ih =>
    intro t L e h hw hc
    have hl := h.len
    refine Ev.step (fun k => by rw [spec_EndsSpace.l1]) ?_
    simp only [show ((t : Int) < (m : Int)) from by omega, castL_length, hl, ↓reduceIte]
    have h2 := sends_l2 m7 htr (r := r) (t := t) (by omega) m 0 L (by omega) h (fun L' g s q => by
      rw [wnext (n := m) (by omega) (by omega)]
      refine ih (t + 1) L' (by omega) g (fun a b hab => ?_) hc
      simp only [wB, Bool.or_eq_true, Bool.and_eq_true] at hab
      rcases hab with hab | ⟨h1, h2⟩
      · exact s _ _ (hw _ _ hab)
      · exact q b (by omega) (wB_lt hE h2).2 (hw _ _ h2) a (hw _ _ h1))
    simpa using h2
end
theorem sends_l3 {m : Nat} (m7 : m ≤ 7) {G : Nat → Nat → Bool} {L : List Nat} (hl : L.length = m) (hG : ∀ a b, bt L a b = G b a) {r : Int × List Int × Bool} (hbad : ∀ j, j < m → G j j = true → r = (0, [], false))
    (hgood : (∀ j, j < m → G j j = false) → Ev (fun k => spec_EndsSpace.l4 k (castL L) ((2 ^ m - 1 : Nat) : Int) 0 (m : Int) []) r) : ∀ d i : Nat, i + d = m → (∀ j, j < i → G j j = false) →
    Ev (fun k => spec_EndsSpace.l3 k (m : Int) (castL L) (castL L) (m : Int) (i : Int)) r := by
  intro d
  induction d with
  | zero =>
    intro i e hn
    obtain rfl : i = m := by omega
    refine Ev.step (fun k => by rw [spec_EndsSpace.l3]) ?_
    simp only [show ¬ ((i : Int) < (i : Int)) from by omega, show (0 : Int) ≤ (i : Int) from by omega, pow1 (show i ≤ 61 from by omega), ↓reduceIte]
    exact hgood hn
  | succ d ih =>
    intro i e hn
    have hi : i < m := by omega
    refine Ev.step (fun k => by rw [spec_EndsSpace.l3]) ?_
    simp only [show ((i : Int) < (m : Int)) from by omega, show (0 : Int) ≤ (i : Int) from by omega, castL_length, show ((i : Int) < (L.length : Int)) from by omega, rd_castL L (show i < L.length from by omega), spIn_eq _ i (show i ≤ 64 from by omega), Option.bind_some, ↓reduceIte]
    have hb : (L.getD i 0).testBit i = G i i := hG i i
    cases hg : G i i with
    | true =>
      rw [hg] at hb
      simp only [hb, ↓reduceIte]
      rw [hbad i hi hg]
      exact Ev.some _
    | false =>
      rw [hg] at hb
      simp only [hb, Bool.false_eq_true, ↓reduceIte]
      rw [wnext (n := m) hi (by omega)]
      exact ih (i + 1) (by omega) (fun j hj => by
        by_cases h' : j = i
        · subst h'; exact hg
        · exact hn j (by omega))
def c3B (G : Nat → Nat → Bool) (q i j k : Nat) : Bool := !(q.testBit i && q.testBit j && G i k && G k j && !q.testBit k)
def a7B (G : Nat → Nat → Bool) (q i j c : Nat) : Bool := (List.range c).all (c3B G q i j)
def a6B (m : Nat) (G : Nat → Nat → Bool) (q i c : Nat) : Bool := (List.range c).all fun j => a7B G q i j m
def a5B (m : Nat) (G : Nat → Nat → Bool) (q c : Nat) : Bool := (List.range c).all fun i => a6B m G q i m
theorem a7B_succ (G : Nat → Nat → Bool) (q i j c : Nat) : a7B G q i j (c + 1) = (a7B G q i j c && c3B G q i j c) := by simp [a7B, List.range_succ]
theorem a6B_succ (m : Nat) (G : Nat → Nat → Bool) (q i c : Nat) : a6B m G q i (c + 1) = (a6B m G q i c && a7B G q i c m) := by simp [a6B, List.range_succ]
theorem a5B_succ (m : Nat) (G : Nat → Nat → Bool) (q c : Nat) : a5B m G q (c + 1) = (a5B m G q c && a6B m G q c m) := by simp [a5B, List.range_succ]
section
variable {m : Nat} (m7 : m ≤ 7) {G : Nat → Nat → Bool} {L : List Nat} (hl : L.length = m) (hG : ∀ a b, bt L a b = G b a) {q x : Nat} (al n' : Int) (acc : List Int) {r : Int × List Int × Bool}
include m7 hl hG
theorem sends_l7 {i j : Nat} (hi : i < m) (hj : j < m) (p5 p6 : Int) (g : Bool) (hc : Ev (fun k => spec_EndsSpace.l6 k (castL L) al (x : Int) (q : Int) (g && a7B G q i j m) (i : Int) (m : Int) p5 (m : Int) (wrap64 (p6 + 1)) n' acc) r) : ∀ d c : Nat, c + d = m →
    Ev (fun k => spec_EndsSpace.l7 k (castL L) al (x : Int) (q : Int) (g && a7B G q i j c) (i : Int) (j : Int) (m : Int) p5 (m : Int) p6 (m : Int) (c : Int) n' acc) r := by
  intro d
  induction d with
  | zero =>
    intro c e
    obtain rfl : c = m := by omega
    refine Ev.step (fun k => by rw [spec_EndsSpace.l7]) ?_
    simp only [show ¬ ((c : Int) < (c : Int)) from by omega, ↓reduceIte]
    exact hc
  | succ d ih =>
    intro c e
    have hcm : c < m := by omega
    have hn := ih (c + 1) (by omega)
    rw [a7B_succ, ← Bool.and_assoc] at hn
    have g1 : (L.getD c 0).testBit i = G i c := hG c i
    have g2 : (L.getD j 0).testBit c = G c j := hG j c
    refine Ev.step (fun k => by rw [spec_EndsSpace.l7]) ?_
    simp only [show ((c : Int) < (m : Int)) from by omega, show (0 : Int) ≤ (c : Int) from by omega, show (0 : Int) ≤ (j : Int) from by omega, castL_length, show ((j : Int) < (L.length : Int)) from by omega, show ((c : Int) < (L.length : Int)) from by omega, rd_castL L (show c < L.length from by omega), rd_castL L (show j < L.length from by omega), spIn_eq _ i (show i ≤ 64 from by omega), spIn_eq _ j (show j ≤ 64 from by omega), spIn_eq _ c (show c ≤ 64 from by omega), Option.bind_some, g1, g2, wnext (n := m) hcm (by omega), ↓reduceIte]
    unfold c3B at hn
    cases h1 : q.testBit i <;> simp only [h1, Bool.false_eq_true, ↓reduceIte, Bool.false_and, Bool.true_and, Bool.not_false, Bool.and_true] at hn ⊢
    · exact hn
    cases h2 : q.testBit j <;> simp only [h2, Bool.false_eq_true, ↓reduceIte, Bool.false_and, Bool.true_and, Bool.not_false, Bool.and_true] at hn ⊢
    · exact hn
    cases h3 : G i c <;> simp only [h3, Bool.false_eq_true, ↓reduceIte, Bool.false_and, Bool.true_and, Bool.not_false, Bool.and_true] at hn ⊢
    · exact hn
    cases h4 : G c j <;> simp only [h4, Bool.false_eq_true, ↓reduceIte, Bool.false_and, Bool.true_and, Bool.not_false, Bool.and_true] at hn ⊢
    · exact hn
    cases h5 : q.testBit c <;> simp only [h5, Bool.false_eq_true, ↓reduceIte, Bool.not_true, Bool.not_false, Bool.and_true, Bool.and_false] at hn ⊢
    · exact hn
    · exact hn
theorem sends_l6 {i : Nat} (hi : i < m) (p5 : Int) (g : Bool) (hc : Ev (fun k => spec_EndsSpace.l5 k (castL L) al (x : Int) (q : Int) (g && a6B m G q i m) (m : Int) (wrap64 (p5 + 1)) n' acc) r) : ∀ d c : Nat, c + d = m →
    Ev (fun k => spec_EndsSpace.l6 k (castL L) al (x : Int) (q : Int) (g && a6B m G q i c) (i : Int) (m : Int) p5 (m : Int) (c : Int) n' acc) r := by
  intro d
  induction d with
  | zero =>
    intro c e
    obtain rfl : c = m := by omega
    refine Ev.step (fun k => by rw [spec_EndsSpace.l6]) ?_
    simp only [show ¬ ((c : Int) < (c : Int)) from by omega, ↓reduceIte]
    exact hc
  | succ d ih =>
    intro c e
    have hcm : c < m := by omega
    have hn := ih (c + 1) (by omega)
    rw [a6B_succ, ← Bool.and_assoc, ← wnext (n := m) hcm (by omega)] at hn
    refine Ev.step (fun k => by rw [spec_EndsSpace.l6]) ?_
    simp only [show ((c : Int) < (m : Int)) from by omega, castL_length, hl, ↓reduceIte]
    have h7 := sends_l7 m7 hl hG (x := x) al n' acc hi hcm p5 (c : Int) (g && a6B m G q i c) hn m 0 (by omega)
    simpa [a7B] using h7
theorem sends_l5 (hc : Ev (fun k => if a5B m G q m = true then (if acc.length < 17592186044416 then (spec_EndsSpace.l4 k (castL L) al (wrap64 ((x : Int) + 1)) n' (acc ++ [(x : Int)])) else none) else spec_EndsSpace.l4 k (castL L) al (wrap64 ((x : Int) + 1)) n' acc) r) : ∀ d c : Nat, c + d = m →
    Ev (fun k => spec_EndsSpace.l5 k (castL L) al (x : Int) (q : Int) (a5B m G q c) (m : Int) (c : Int) n' acc) r := by
  intro d
  induction d with
  | zero =>
    intro c e
    obtain rfl : c = m := by omega
    refine Ev.step (fun k => by rw [spec_EndsSpace.l5]) ?_
    simp only [show ¬ ((c : Int) < (c : Int)) from by omega, ↓reduceIte]
    exact hc
  | succ d ih =>
    intro c e
    have hcm : c < m := by omega
    have hn := ih (c + 1) (by omega)
    rw [a5B_succ, ← wnext (n := m) hcm (by omega)] at hn
    refine Ev.step (fun k => by rw [spec_EndsSpace.l5]) ?_
    simp only [show ((c : Int) < (m : Int)) from by omega, castL_length, hl, ↓reduceIte]
    have h6 := sends_l6 m7 hl hG (x := x) al n' acc hcm (c : Int) (a5B m G q c) hn m 0 (by omega)
    simpa [a6B] using h6
end
theorem sends_l4 {m : Nat} (m7 : m ≤ 7) {G : Nat → Nat → Bool} {L : List Nat} (hl : L.length = m) (hG : ∀ a b, bt L a b = G b a) (p : Nat → Bool) (hp : ∀ x, x < 2 ^ m → p x = a5B m G (andn (2 ^ m - 1) x) m) : ∀ d c : Nat, c + d = 2 ^ m →
    Ev (fun k => spec_EndsSpace.l4 k (castL L) ((2 ^ m - 1 : Nat) : Int) (c : Int) (m : Int) (castL (upN p c))) ((m : Int), castL (upN p (2 ^ m)), true) := by
  have hp2 := pow_le_128 m7
  have hpos : 0 < 2 ^ m := Nat.two_pow_pos _
  intro d
  induction d with
  | zero =>
    intro c h
    obtain rfl : c = 2 ^ m := by omega
    refine Ev.step (fun k => by rw [spec_EndsSpace.l4]) ?_
    simp only [show ¬ (((2 ^ m : Nat) : Int) ≤ ((2 ^ m - 1 : Nat) : Int)) from by omega, ↓reduceIte]
    exact Ev.some _
  | succ d ih =>
    intro c h
    have hc : c < 2 ^ m := by omega
    have hn := ih (c + 1) (by omega)
    rw [upN_succ] at hn
    have hlu := upN_le p c
    refine Ev.step (fun k => by rw [spec_EndsSpace.l4]) ?_
    simp only [show ((c : Int) ≤ ((2 ^ m - 1 : Nat) : Int)) from by omega, bAndn (show 2 ^ m - 1 < 2 ^ 62 from by omega) (show c < 2 ^ 62 from by omega), castL_length, hl, ↓reduceIte]
    have h5 := sends_l5 m7 hl hG (q := andn (2 ^ m - 1) c) (x := c) ((2 ^ m - 1 : Nat) : Int) (m : Int) (castL (upN p c)) (r := ((m : Int), castL (upN p (2 ^ m)), true)) (by
      rw [← hp c hc, wnext (n := 2 ^ m) hc (by omega)]
      by_cases hpc : p c = true
      · simp only [hpc, ↓reduceIte, castL_length, show (upN p c).length < 17592186044416 from by omega, castL_snoc] at hn ⊢
        exact hn
      · simp only [hpc, ↓reduceIte] at hn ⊢
        exact hn) m 0 (by omega)
    simpa [a5B] using h5
theorem fit_eq {m : Nat} (m7 : m ≤ 7) (G : Nat → Nat → Bool) {x : Nat} (hx : x < 2 ^ m) : fitB m G x = a5B m G (andn (2 ^ m - 1) x) m := by
  have hq : ∀ i, (andn (2 ^ m - 1) x).testBit i = (decide (i < m) && !x.testBit i) := fun i => by rw [testBit_andn, Nat.testBit_two_pow_sub_one]
  rw [Bool.eq_iff_iff]
  simp only [fitB, okB, lowB, uppB, a5B, a6B, a7B, c3B, List.all_eq_true, mem_itemsN, List.mem_range, Bool.not_eq_true', Bool.and_eq_false_iff, hq]
  constructor
  · intro h i hi j hj k hk
    by_cases h1 : x.testBit k = true
    · have hk' := h k ⟨by omega, h1⟩
      by_cases h2 : (!x.testBit i && G i k) = true
      · have hlow : ((List.range m).any fun c => !x.testBit c && G c k) = true := List.any_eq_true.2 ⟨i, List.mem_range.2 hi, h2⟩
        rcases hk' with hk' | hk'
        · rw [hlow] at hk'; cases hk'
        · have := List.any_eq_false.1 hk' j (List.mem_range.2 hj)
          simp only [Bool.not_eq_true, Bool.and_eq_false_iff, Bool.not_eq_false'] at this
          rcases this with h3 | h3 <;> simp [h3]
      · simp only [Bool.not_eq_true, Bool.and_eq_false_iff, Bool.not_eq_false'] at h2
        rcases h2 with h3 | h3 <;> simp [h3]
    · simp [h1, hk]
  · intro h k ⟨hk7, hk⟩
    have hkm : k < m := by
      rcases Nat.lt_or_ge k m with hh | hh
      · exact hh
      · have := Nat.testBit_lt_two_pow (Nat.lt_of_lt_of_le hx (Nat.pow_le_pow_right (by decide) hh))
        rw [hk] at this; cases this
    cases hlo : (List.range m).any fun c => !x.testBit c && G c k with
    | false => exact .inl rfl
    | true =>
      right
      obtain ⟨i, hi, h1⟩ := List.any_eq_true.1 hlo
      rw [List.any_eq_false]
      intro j hj h2
      have := h i (List.mem_range.1 hi) j (List.mem_range.1 hj) k hkm
      simp only [Bool.and_eq_true, Bool.not_eq_true'] at h1 h2
      simp [h1, h2, hk, List.mem_range.1 hi, List.mem_range.1 hj] at this
theorem EndsSpace_both (P : List (List Int)) (hl : P.length ≤ 1048576) (hrow : ∀ x ∈ P, x.length ≤ 1048576) (n : Int) : ∃ (n' : Int) (L : List Int) (b : Bool), L.length ≤ 1048576 ∧ Ev (fun k => spec_EndsSpace.f k n P) (n', L, b) ∧ Ev (fun k => impl_EndsSpace.f k n P) (n', L, b) := by
  have hno : ∀ q, Ev (fun k => impl_EndsSpace.j0 k P q true) (0, [], false) := by
    intro q
    refine Ev.step (fun k => by rw [impl_EndsSpace.j0]) ?_
    simp only [↓reduceIte]; exact Ev.some _
  have hno2 : Ev (fun k => spec_EndsSpace.j0 k n P true) (0, [], false) := by
    refine Ev.step (fun k => by rw [spec_EndsSpace.j0]) ?_
    simp only [↓reduceIte]; exact Ev.some _
  have e0 : rd [n] 0 = n := rfl
  by_cases h : 1 ≤ n ∧ n ≤ 7
  rotate_left
  · refine ⟨0, [], false, by simp, ?_, ?_⟩
    · unfold spec_EndsSpace.f
      simp only [spItems_eq, Option.bind_some, decide_eq_false h, ↓reduceIte, Bool.false_eq_true]
      exact hno2
    · unfold impl_EndsSpace.f
      simp only [isSize_eq, Option.bind_some, List.length_singleton, show ((0 : Int) < ((1 : Nat) : Int)) from by omega, e0, decide_eq_false h, ↓reduceIte, Bool.false_eq_true]
      exact hno _
  obtain ⟨m, rfl⟩ := Int.eq_ofNat_of_zero_le (show 0 ≤ n by omega)
  have m7 : m ≤ 7 := by omega
  have m1 : 1 ≤ m := by omega
  have hp2 := pow_le_128 m7
  have himp : ∀ v, Ev (fun k => impl_EndsSpace.j0 k P [(m : Int)] (!(decide (P.length ≤ 40) && P.all (pairB (m : Int))))) v → Ev (fun k => impl_EndsSpace.f k (m : Int) P) v := by
    intro v hv
    unfold impl_EndsSpace.f
    simp only [isSize_eq, Option.bind_some, decide_eq_true h, ↓reduceIte, List.length_singleton, show ((0 : Int) < ((1 : Nat) : Int)) from by omega, e0]
    exact Ev.bind (arePairs_ev h.1 h.2 P hl) hv
  have hspec : ∀ v, Ev (fun k => spec_EndsSpace.j0 k (m : Int) P (decide ((P.length : Int) > 40))) v → Ev (fun k => spec_EndsSpace.f k (m : Int) P) v := by
    intro v hv
    unfold spec_EndsSpace.f
    simp only [spItems_eq, Option.bind_some, decide_eq_true h, ↓reduceIte]
    exact hv
  by_cases h40 : P.length ≤ 40
  rotate_left
  · refine ⟨0, [], false, by simp, hspec _ ?_, himp _ ?_⟩
    · simp only [decide_eq_true (show ((P.length : Int) > 40) from by omega)]; exact hno2
    · simp only [decide_eq_false h40, Bool.false_and, Bool.not_false]; exact hno _
  simp only [decide_eq_true h40, Bool.true_and] at himp
  simp only [decide_eq_false (show ¬ ((P.length : Int) > 40) from by omega)] at hspec
  have hz : ∀ a, (List.replicate m 0).getD a 0 = 0 := fun a => by
    simp only [List.getD_eq_getElem?_getD, List.getElem?_replicate]; split <;> rfl
  have hz2 : castL (List.replicate m 0) = List.replicate m (0 : Int) := by simp [castL]
  have hs0 : ∀ r : Int × List Int × Bool, (P.all (pairB (m : Int)) = false → r = (0, [], false)) → (P.all (pairB (m : Int)) = true → ∀ L : List Nat, L.length = m → (∀ a, L.getD a 0 < 2 ^ m) → (∀ a b, bt L a b = EP P b a) → Ev (fun k => spec_EndsSpace.l1 k (m : Int) (castL L) 0) r) → Ev (fun k => spec_EndsSpace.f k (m : Int) P) r := by
    intro r hb hc
    refine hspec _ ?_
    refine Ev.step (fun k => by rw [spec_EndsSpace.j0]) ?_
    simp only [↓reduceIte, Bool.false_eq_true, show (0 : Int) ≤ (m : Int) from by omega, Int.toNat_natCast, show m ≤ 35184372088832 from by omega]
    have h0 := sends_l0 m1 m7 P hl hb hc P [] (List.replicate m 0) rfl rfl (by simp) (fun a => by rw [hz]; exact Nat.two_pow_pos _) (fun a b => by unfold bt; rw [hz]; simp [EP])
    simpa [hz2] using h0
  cases hall : P.all (pairB (m : Int)) with
  | false =>
    refine ⟨0, [], false, by simp, hs0 _ (fun _ => rfl) (fun hh => by rw [hall] at hh; cases hh), himp _ ?_⟩
    rw [hall]; exact hno _
  | true =>
    have hp : ∀ r ∈ P, pairB (m : Int) r = true := List.all_eq_true.1 hall
    obtain ⟨G, hGd⟩ : ∃ G : Nat → Nat → Bool, G = wB (EP P) m := ⟨_, rfl⟩
    have hE : ∀ a b, EP P a b = true → a < m ∧ b < m := fun a b hab => EP_lt hp hab
    have htr : ∀ a b c, G a b = true → G b c = true → G a c = true := fun a b c h1 h2 => by
      rw [hGd] at h1 h2 ⊢
      exact wB_tr (wB_lt hE h1).2 h1 h2
    have hbase : ∀ a b, EP P a b = true → G a b = true := fun a b hab => by rw [hGd]; exact wB_base hab
    have key : ∀ r : Int × List Int × Bool, (∀ j, j < m → G j j = true → r = (0, [], false)) → ((∀ j, j < m → G j j = false) → r = ((m : Int), castL (upN (fitB m G) (2 ^ m)), true)) → Ev (fun k => spec_EndsSpace.f k (m : Int) P) r ∧ Ev (fun k => impl_EndsSpace.f k (m : Int) P) r := by
      intro r hbad hgood
      refine ⟨hs0 _ (fun hh => by rw [hall] at hh; cases hh) (fun _ L hL hlt hb => ?_), himp _ ?_⟩
      · have hEI : EI m (fun a b => G b a = true) L := ⟨hL, hlt, fun a b hab => hbase _ _ (by rw [← hb]; exact hab)⟩
        refine sends_l1 (G := fun a b => G b a = true) m7 (fun a b c h1 h2 => htr _ _ _ h2 h1) hE m 0 L (by omega) hEI (fun a b hab => by rw [hb]; exact hab) (fun L' g hw => ?_)
        have hG' : ∀ a b, bt L' a b = G b a := fun a b => by
          rw [Bool.eq_iff_iff]
          exact ⟨fun hab => g.snd _ _ hab, fun hab => hw _ _ (by rw [← hGd]; exact hab)⟩
        have h3 := sends_l3 m7 g.len hG' hbad (fun hn => by
          rw [hgood hn]
          simpa [upN, castL_nil] using sends_l4 m7 g.len hG' (fitB m G) (fun x hx => fit_eq m7 G hx) (2 ^ m) 0 (by omega)) m 0 (by omega) (fun j hj => by omega)
        simpa using h3
      · rw [hall]
        refine Ev.step (fun k => by rw [impl_EndsSpace.j0]) ?_
        have e0' : rd [(m : Int)] 0 = (m : Int) := rfl
        simp only [Bool.not_true, Bool.false_eq_true, ↓reduceIte, List.length_singleton, show ((0 : Int) < ((1 : Nat) : Int)) from by omega, e0', show (0 : Int) ≤ (m : Int) from by omega, Int.toNat_natCast, show m ≤ 35184372088832 from by omega, Option.bind_some, show ((0 : Int)).toNat = 0 from rfl, List.set_cons_zero, ← hz2]
        have h0 := ends_l0 m7 P hl hp (r := r) (fun L hL hlt hb => by
          have hEI : EI m (fun a b => G a b = true) L := ⟨hL, hlt, fun a b hab => hbase _ _ (by rw [← hb]; exact hab)⟩
          have h1 := ends_l1 m7 htr (r := r) hE m 0 L (by omega) hEI (fun a b hab => by rw [hb]; exact hab) (fun L' g hw => by
            have hG' : ∀ a b, bt L' a b = G a b := fun a b => by
              rw [Bool.eq_iff_iff]
              exact ⟨fun hab => g.snd _ _ hab, fun hab => hw _ _ (by rw [← hGd]; exact hab)⟩
            have h4 := ends_l4 m7 g hG' hbad (fun hn => by
              rw [hgood hn]
              exact Ev.bind (those_ends_ev m7 (fitB m G) [(m : Int)] [castL L'] (fun x hx => ends1_ev m7 g hG' hx)) (Ev.some _)) m 0 (by omega) (fun j hj => by omega)
            simpa using h4)
          simpa using h1) P [] (List.replicate m 0) rfl (by simp) (fun a => by rw [hz]; exact Nat.two_pow_pos _) (fun a b => by unfold bt; rw [hz]; simp [EP])
        simpa using h0
    by_cases hcyc : ∃ j, j < m ∧ G j j = true
    · obtain ⟨h1, h2⟩ := key (0, [], false) (fun _ _ _ => rfl) (fun hn => by obtain ⟨j, hj, hg⟩ := hcyc; rw [hn j hj] at hg; cases hg)
      exact ⟨0, [], false, by simp, h1, h2⟩
    · have hn : ∀ j, j < m → G j j = false := fun j hj => Bool.eq_false_iff.2 (fun hg => hcyc ⟨j, hj, hg⟩)
      obtain ⟨h1, h2⟩ := key _ (fun j hj hg => by rw [hn j hj] at hg; cases hg) (fun _ => rfl)
      have hlu := upN_le (fitB m G) (2 ^ m)
      exact ⟨_, _, _, by rw [castL_length]; omega, h1, h2⟩
end Go.Proofs.Ytekllaaohagefaa.Q
