/- A word's digits: both; conditions: as each theorem states. -/
import Derived.Test.YtpliebmaagoahaaCFnExactWordTextQNet
import Derived.Test.YtpliebmaagoahaaCFnExactWordTextP1
namespace Go.Proofs.Ytpliebmaagoahaa.Q
open Go.RowKit Go.Proofs.YtpliebmaagoahaaW.PrintWords Go.Proofs.YtpliebmaagoahaaW.PrintLast Go.Proofs.YtpliebmaagoahaaW.PrintMore Go.Proofs.Ytpliebmaagoahaa.P
set_option linter.unusedVariables false
set_option linter.unusedSimpArgs false

def digB (x : Int) : Bool := decide (0 ≤ x ∧ x ≤ 9)
def digitsOf (w : List Int) : List Int := w.map fun d => (48 + d) % 256
theorem str_append (a b : List Int) : strOfNums (a ++ b) = strOfNums a ++ strOfNums b := by
  apply ByteArray.ext
  simp [strOfNums, ByteArray.data_append]
theorem str_empty (a : List Int) : (strOfNums a).toList = ([] : List UInt8) ↔ a = [] := by
  rw [ByteArray.toList_eq, strOfNums_data, List.map_eq_nil_iff]
theorem idx_text (w : List Int) (hl : w.length ≤ 1048576) : ∀ rest pre : List Int, pre ++ rest = w →
    ∃ v, Ev (fun k => slices_IndexFunc_int_int__WordText_1.l0 k w (w.length : Int) (pre.length : Int)) v ∧ (decide (v ≥ 0) = rest.any fun r => !digB r) := by
  intro rest
  induction rest with
  | nil =>
    intro pre h
    obtain rfl : pre = w := by simpa using h
    refine ⟨-1, Ev.step (fun k => by rw [slices_IndexFunc_int_int__WordText_1.l0]) ?_, rfl⟩
    simp only [show ¬ ((pre.length : Int) < (pre.length : Int)) from by omega, ↓reduceIte]
    exact Ev.some _
  | cons r rest ih =>
    intro pre h
    have hlen : w.length = pre.length + (rest.length + 1) := by rw [← h]; simp
    have e : rd w (pre.length : Int) = r := by rw [← h]; exact rd_mid _ _ _
    obtain ⟨v, hv, hd⟩ := ih (pre ++ [r]) (by simp [h])
    rw [List.length_append, List.length_singleton] at hv
    cases hp : digB r with
    | false =>
      refine ⟨(pre.length : Int), Ev.step (fun k => by rw [slices_IndexFunc_int_int__WordText_1.l0]) ?_, by simp [hp]⟩
      have hp' : decide (0 ≤ r ∧ r ≤ 9) = false := hp
      simp only [show ((pre.length : Int) < (w.length : Int)) from by omega, show (0 : Int) ≤ (pre.length : Int) from by omega, e, impl_WordText_1.f, within_eq, Option.bind_some, hp', Bool.not_false, ↓reduceIte]
      exact Ev.some _
    | true =>
      refine ⟨v, Ev.step (fun k => by rw [slices_IndexFunc_int_int__WordText_1.l0]) ?_, by simp [hp, hd]⟩
      have hp' : decide (0 ≤ r ∧ r ≤ 9) = true := hp
      simp only [show ((pre.length : Int) < (w.length : Int)) from by omega, show (0 : Int) ≤ (pre.length : Int) from by omega, e, impl_WordText_1.f, within_eq, Option.bind_some, hp', Bool.not_true, Bool.false_eq_true, ↓reduceIte]
      rw [wnext (n := w.length) (by omega) (by omega)]
      exact hv
theorem contains_text (w : List Int) (hl : w.length ≤ 1048576) : Ev (fun k => slices_ContainsFunc_int_int__WordText_1.f k w) (!w.all digB) := by
  obtain ⟨v, hv, hd⟩ := idx_text w hl w [] rfl
  unfold slices_ContainsFunc_int_int__WordText_1.f slices_IndexFunc_int_int__WordText_1.f
  refine Ev.bind hv ((Ev.some _).eq ?_)
  rw [hd, List.not_all_eq_any_not]
def textOf (w : List Int) : ByteArray := if w = [] then ⟨#[45]⟩ else strOfNums (digitsOf w)
theorem impl_text (w : List Int) (hl : w.length ≤ 20) (hw : ∀ x ∈ w, digB x = true) : ∀ rest pre : List Int, pre ++ rest = w →
    Ev (fun k => impl_WordText.l0 k (digitsOf pre) w (w.length : Int) (pre.length : Int)) (textOf w, true) := by
  intro rest
  induction rest with
  | nil =>
    intro pre h
    obtain rfl : pre = w := by simpa using h
    refine Ev.step (fun k => by rw [impl_WordText.l0]) ?_
    simp only [show ¬ ((pre.length : Int) < (pre.length : Int)) from by omega, ↓reduceIte, digitsOf, List.length_map]
    by_cases h0 : pre = []
    · subst h0
      simp only [List.length_nil, show (((0 : Nat) : Int) = 0) from rfl, ↓reduceIte]
      exact (Ev.some _).eq (by simp [textOf])
    · have : pre.length ≠ 0 := fun e => h0 (List.length_eq_zero_iff.1 e)
      simp only [show ¬ ((pre.length : Int) = 0) from by omega, ↓reduceIte]
      exact (Ev.some _).eq (by simp [textOf, h0, digitsOf])
  | cons r rest ih =>
    intro pre h
    have hlen : w.length = pre.length + (rest.length + 1) := by rw [← h]; simp
    have e : rd w (pre.length : Int) = r := by rw [← h]; exact rd_mid _ _ _
    have hn := ih (pre ++ [r]) (by simp [h])
    rw [List.length_append, List.length_singleton] at hn
    refine Ev.step (fun k => by rw [impl_WordText.l0]) ?_
    simp only [show ((pre.length : Int) < (w.length : Int)) from by omega, show (0 : Int) ≤ (pre.length : Int) from by omega, e, show (digitsOf pre).length < 140737488355328 from by simp [digitsOf]; omega, ↓reduceIte]
    rw [wnext (n := w.length) (by omega) (by omega)]
    have ed : digitsOf pre ++ [(48 + r) % 256] = digitsOf (pre ++ [r]) := by simp [digitsOf]
    rw [ed]
    exact hn
theorem num_ev {d : Int} (h : digB d = true) : Ev (fun k => spec_l1Num.f k d) (strOfNums [(48 + d) % 256]) := by
  have h' : 0 ≤ d ∧ d ≤ 9 := of_decide_eq_true h
  refine Ev.step (fun k => by rw [spec_l1Num.f]) ?_
  simp only [show d < 10 from by omega, ↓reduceIte, w64 (show -9223372036854775808 ≤ 48 + d from by omega) (show 48 + d < 9223372036854775808 from by omega)]
  exact Ev.some _
theorem spec_text (w : List Int) (hl : w.length ≤ 20) (hw : ∀ x ∈ w, digB x = true) : ∀ rest pre : List Int, pre ++ rest = w →
    Ev (fun k => spec_WordText.l0 k (strOfNums (digitsOf pre)) w (w.length : Int) (pre.length : Int)) (textOf w, true) := by
  intro rest
  induction rest with
  | nil =>
    intro pre h
    obtain rfl : pre = w := by simpa using h
    refine Ev.step (fun k => by rw [spec_WordText.l0]) ?_
    simp only [show ¬ ((pre.length : Int) < (pre.length : Int)) from by omega, ↓reduceIte]
    by_cases h0 : pre = []
    · subst h0
      rw [if_pos ((str_empty (digitsOf [])).2 rfl)]
      exact (Ev.some _).eq (by simp [textOf])
    · rw [if_neg (fun e => h0 (by simpa [digitsOf] using (str_empty _).1 e))]
      exact (Ev.some _).eq (by simp [textOf, h0])
  | cons r rest ih =>
    intro pre h
    have hlen : w.length = pre.length + (rest.length + 1) := by rw [← h]; simp
    have e : rd w (pre.length : Int) = r := by rw [← h]; exact rd_mid _ _ _
    have hn := ih (pre ++ [r]) (by simp [h])
    rw [List.length_append, List.length_singleton] at hn
    refine Ev.step (fun k => by rw [spec_WordText.l0]) ?_
    simp only [show ((pre.length : Int) < (w.length : Int)) from by omega, show (0 : Int) ≤ (pre.length : Int) from by omega, e, ↓reduceIte]
    refine Ev.bind (num_ev (hw r (by rw [← h]; simp))) ?_
    simp only [strOfNums_size, show (digitsOf pre).length + [(48 + r) % 256].length ≤ 9223372036854775807 from by simp [digitsOf]; omega, ↓reduceIte]
    rw [wnext (n := w.length) (by omega) (by omega), ← str_append]
    have ed : digitsOf pre ++ [(48 + r) % 256] = digitsOf (pre ++ [r]) := by simp [digitsOf]
    rw [ed]
    exact hn
theorem WordText_both (w : List Int) (hw : w.length ≤ 1048576) : ∃ (v : ByteArray × Bool), Ev (fun k => spec_WordText.f k w) v ∧ Ev (fun k => impl_WordText.f k w) v := by
  have hno : Ev (fun k => impl_WordText.j0 k w true) (⟨#[]⟩, false) := by
    refine Ev.step (fun k => by rw [impl_WordText.j0]) ?_
    simp only [↓reduceIte]; exact Ev.some _
  have hno2 : Ev (fun k => spec_WordText.j0 k w true) (⟨#[]⟩, false) := by
    refine Ev.step (fun k => by rw [spec_WordText.j0]) ?_
    simp only [↓reduceIte]; exact Ev.some _
  by_cases hl : w.length ≤ 20
  rotate_left
  · refine ⟨(⟨#[]⟩, false), ?_, ?_⟩
    · unfold spec_WordText.f
      simp only [show ((w.length : Int) > 20) from by omega, ↓reduceIte]; exact hno2
    · unfold impl_WordText.f
      simp only [show ((w.length : Int) > 20) from by omega, ↓reduceIte]; exact hno
  have hall : (w.all fun x => decide (0 ≤ x ∧ x ≤ 9)) = w.all digB := rfl
  have hs : ∀ v, Ev (fun k => spec_WordText.j0 k w (!w.all digB)) v → Ev (fun k => spec_WordText.f k w) v := by
    intro v hv
    unfold spec_WordText.f
    simp only [show ¬ ((w.length : Int) > 20) from by omega, ↓reduceIte]
    exact Ev.bind (l1All_ev w (by omega) 0 9) hv
  have hi : ∀ v, Ev (fun k => impl_WordText.j0 k w (!w.all digB)) v → Ev (fun k => impl_WordText.f k w) v := by
    intro v hv
    unfold impl_WordText.f
    simp only [show ¬ ((w.length : Int) > 20) from by omega, ↓reduceIte]
    exact Ev.bind (contains_text w hw) hv
  cases hd : w.all digB with
  | false => rw [hd] at hs hi; exact ⟨_, hs _ hno2, hi _ hno⟩
  | true =>
    rw [hd] at hs hi
    refine ⟨(textOf w, true), hs _ ?_, hi _ ?_⟩
    · refine Ev.step (fun k => by rw [spec_WordText.j0]) ?_
      simp only [Bool.not_true, Bool.false_eq_true, ↓reduceIte]
      exact spec_text w hl (List.all_eq_true.1 hd) w [] rfl
    · refine Ev.step (fun k => by rw [impl_WordText.j0]) ?_
      simp only [Bool.not_true, Bool.false_eq_true, ↓reduceIte]
      exact impl_text w hl (List.all_eq_true.1 hd) w [] rfl
end Go.Proofs.Ytpliebmaagoahaa.Q
