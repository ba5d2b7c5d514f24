/- Functions of the program as plain Lean functions, each with a proof that the Go code computes it; written by a program of this session. Conditions: as each theorem states. -/
import Derived.Test.YtpliebmaagoahaaCFnExactPointSpaceP3
namespace Go.Proofs.Ytpliebmaagoahaa.P
open Go.RowKit Go.Proofs.YtpliebmaagoahaaW.PrintWords Go.Proofs.YtpliebmaagoahaaW.PrintLast Go.Proofs.YtpliebmaagoahaaW.PrintMore
attribute [local go_sem] max2_int min2_int max_two min_two max_three min_three max_four min_four   -- for this text's walks alone
set_option linter.unusedVariables false
set_option linter.unusedSimpArgs false

/-! ### spec_shCovers: function 111 -/
mutual
def spec_shCovers.l0 : Nat → List (List Int) → Int → Int → Int → Int → Option (Bool)
 | 0, _, _, _, _, _ => none
 | k + 1, x0, x1, x2, x14, x15 => if x15 < x14 then (spec_shCovers.l1 k x0 x1 x2 x15 0 x14 x15) else (some false)
def spec_shCovers.l1 : Nat → List (List Int) → Int → Int → Int → Int → Int → Int → Option (Bool)
 | 0, _, _, _, _, _, _, _ => none
 | k + 1, x0, x1, x2, x7, x8, x14, x15 => if x8 < x7 then ((spec_spIn.f x1 x7).bind fun t732 => (if t732 = true then ((spec_spIn.f x1 x8).bind fun t733 => (spec_shCovers.j2 k x0 x1 x2 x7 x8 x14 x15 (!t733))) else (spec_shCovers.j2 k x0 x1 x2 x7 x8 x14 x15 true))) else (spec_shCovers.l0 k x0 x1 x2 x14 (wrap64 (x15 + 1)))
def spec_shCovers.j2 : Nat → List (List Int) → Int → Int → Int → Int → Int → Int → Bool → Option (Bool)
 | 0, _, _, _, _, _, _, _, _ => none
 | k + 1, x0, x1, x2, x7, x8, x14, x15, x32 => if x32 = true then (spec_shCovers.l1 k x0 x1 x2 x7 (wrap64 (x8 + 1)) x14 x15) else (if 0 ≤ x2 then (if x2 < (x0.length : Int) then (if 0 ≤ x7 then (if x7 < (x0.length : Int) then (if 0 ≤ x8 then (if x8 < (x0.length : Int) then ((spec_shBetween.f (rd_L3 x0 x2) (rd_L3 x0 x7) (rd_L3 x0 x8)).bind fun t737 => (if t737 = true then (some true) else (spec_shCovers.l2 k x0 x1 x2 x7 x8 0 x14 x15))) else (none)) else (none)) else (none)) else (none)) else (none)) else (none))
def spec_shCovers.l2 : Nat → List (List Int) → Int → Int → Int → Int → Int → Int → Int → Option (Bool)
 | 0, _, _, _, _, _, _, _, _ => none
 | k + 1, x0, x1, x2, x7, x8, x9, x14, x15 => if x9 < x8 then ((spec_spIn.f x1 x9).bind fun t738 => (if t738 = true then (if 0 ≤ x2 then (if x2 < (x0.length : Int) then (if 0 ≤ x7 then (if x7 < (x0.length : Int) then (if 0 ≤ x8 then (if x8 < (x0.length : Int) then (if 0 ≤ x9 then (if x9 < (x0.length : Int) then ((spec_shWithin.f (rd_L3 x0 x2) (rd_L3 x0 x7) (rd_L3 x0 x8) (rd_L3 x0 x9)).bind fun t743 => (if t743 = true then (some true) else (spec_shCovers.l2 k x0 x1 x2 x7 x8 (wrap64 (x9 + 1)) x14 x15))) else (none)) else (none)) else (none)) else (none)) else (none)) else (none)) else (none)) else (none)) else (spec_shCovers.l2 k x0 x1 x2 x7 x8 (wrap64 (x9 + 1)) x14 x15))) else (spec_shCovers.l1 k x0 x1 x2 x7 (wrap64 (x8 + 1)) x14 x15)
end
def spec_shCovers.f (k : Nat) (l0 : List (List Int)) (a1 : Int) (a2 : Int) : Option (Bool) := (spec_spIn.f a1 a2).bind fun t731 => (if t731 = true then (some true) else (spec_shCovers.l0 k l0 a1 a2 (l0.length : Int) 0))
theorem spec_shCovers.mono_l : ∀ k, (∀ y0 y1 y2 y3 y4, LeO (spec_shCovers.l0 k y0 y1 y2 y3 y4) (spec_shCovers.l0 (k + 1) y0 y1 y2 y3 y4)) ∧ (∀ y0 y1 y2 y3 y4 y5 y6, LeO (spec_shCovers.l1 k y0 y1 y2 y3 y4 y5 y6) (spec_shCovers.l1 (k + 1) y0 y1 y2 y3 y4 y5 y6)) ∧ (∀ y0 y1 y2 y3 y4 y5 y6 y7, LeO (spec_shCovers.j2 k y0 y1 y2 y3 y4 y5 y6 y7) (spec_shCovers.j2 (k + 1) y0 y1 y2 y3 y4 y5 y6 y7)) ∧ (∀ y0 y1 y2 y3 y4 y5 y6 y7, LeO (spec_shCovers.l2 k y0 y1 y2 y3 y4 y5 y6 y7) (spec_shCovers.l2 (k + 1) y0 y1 y2 y3 y4 y5 y6 y7))
 | 0 => ⟨fun _ _ _ _ _ r h => by simp [spec_shCovers.l0] at h, fun _ _ _ _ _ _ _ r h => by simp [spec_shCovers.l1] at h, fun _ _ _ _ _ _ _ _ r h => by simp [spec_shCovers.j2] at h, fun _ _ _ _ _ _ _ _ r h => by simp [spec_shCovers.l2] at h⟩
 | k + 1 => by
  obtain ⟨ih0, ih1, ih2, ih3⟩ := spec_shCovers.mono_l k
  refine ⟨?_, ?_, ?_, ?_⟩
  ·intro y0 y1 y2 y3 y4
   unfold spec_shCovers.l0
   repeat' first
   | (with_reducible exact ih1 _ _ _ _ _ _ _)
   | (with_reducible exact LeO.refl _)
   | (with_reducible refine LeO.ite ?_ ?_)
  ·intro y0 y1 y2 y3 y4 y5 y6
   unfold spec_shCovers.l1
   repeat' first
   | (with_reducible exact ih0 _ _ _ _ _)
   | (with_reducible exact ih2 _ _ _ _ _ _ _ _)
   | (with_reducible exact LeO.refl _)
   | (with_reducible refine LeO.ite ?_ ?_)
   | (with_reducible refine LeO.bind ?_ (fun _ => ?_))
  ·intro y0 y1 y2 y3 y4 y5 y6 y7
   unfold spec_shCovers.j2
   repeat' first
   | (with_reducible exact ih1 _ _ _ _ _ _ _)
   | (with_reducible exact ih3 _ _ _ _ _ _ _ _)
   | (with_reducible exact LeO.refl _)
   | (with_reducible refine LeO.ite ?_ ?_)
   | (with_reducible refine LeO.bind ?_ (fun _ => ?_))
  ·intro y0 y1 y2 y3 y4 y5 y6 y7
   unfold spec_shCovers.l2
   repeat' first
   | (with_reducible exact ih1 _ _ _ _ _ _ _)
   | (with_reducible exact ih3 _ _ _ _ _ _ _ _)
   | (with_reducible exact LeO.refl _)
   | (with_reducible refine LeO.ite ?_ ?_)
   | (with_reducible refine LeO.bind ?_ (fun _ => ?_))
theorem spec_shCovers.mono : ∀ a0 a1 a2 k, LeO (spec_shCovers.f k a0 a1 a2) (spec_shCovers.f (k + 1) a0 a1 a2) := by
 intro a0 a1 a2 k
 obtain ⟨ih0, ih1, ih2, ih3⟩ := spec_shCovers.mono_l k
 unfold spec_shCovers.f
 repeat' first
   | (with_reducible exact ih0 _ _ _ _ _)
   | (with_reducible exact LeO.refl _)
   | (with_reducible refine LeO.ite ?_ ?_)
   | (with_reducible refine LeO.bind ?_ (fun _ => ?_))
def spec_shCovers.T10 : Bool × List (List Nat × List Nat) := (true, [([], []), ([], []), ([0, 1], [0, 1]), ([2], [2]), ([], []), ([], []), ([4, 5], [4, 5]), ([6], [6]), ([], []), ([], []), ([8, 9], [8, 9]), ([10], [10]), ([3, 7, 11], [3, 7, 11])])
def spec_shCovers.B10 : List Nat := [0, 0, 3, 7, 0, 0, 48, 112, 0, 0, 768, 1792, 4095]
theorem spec_shCovers.tab10 : rtab .any (opsOf Try.f111 10) = spec_shCovers.T10 := by kernel_rfl
theorem spec_shCovers.bits10 : waitsOk spec_shCovers.T10.2 spec_shCovers.B10 = true := by kernel_rfl
def spec_shCovers.T15 : Bool × List (List Nat × List Nat) := (true, [([], []), ([], []), ([0, 1], [0, 1]), ([2, 2], [2]), ([3], [3]), ([3], [3]), ([4, 5, 3], [3, 4, 5]), ([6, 3], [3, 6]), ([3], [3]), ([3], [3]), ([8, 9, 3], [3, 8, 9]), ([10, 3], [3, 10]), ([3], [3]), ([3], [3]), ([12, 13, 3], [3, 12, 13]), ([14, 3], [3, 14]), ([3], [3]), ([3], [3]), ([16, 17, 3], [3, 16, 17]), ([18, 3], [3, 18]), ([7, 11, 15, 19, 3, 3], [3, 7, 11, 15, 19]), ([3, 20], [3, 20])])
def spec_shCovers.B15 : List Nat := [0, 0, 3, 7, 15, 15, 63, 127, 15, 15, 783, 1807, 15, 15, 12303, 28687, 15, 15, 196623, 458767, 1048575, 2097151]
theorem spec_shCovers.tab15 : rtab .any (opsOf Try.f111 15) = spec_shCovers.T15 := by kernel_rfl
theorem spec_shCovers.bits15 : waitsOk spec_shCovers.T15.2 spec_shCovers.B15 = true := by kernel_rfl
set_option maxHeartbeats 8000000 in
set_option maxRecDepth 100000 in
theorem spec_shCovers.calls (k : Nat) (A0 : Option Addr) (c0 : Nat) (l0 : List (List Int)) (a1 : Int) (a2 : Int) (r : Bool) (w : World) (hr0 : Kd.C (Kd.slice 3 (Kd.int .i64)) w A0 l0.length l0) (hc0 : l0.length ≤ c0) (h : spec_shCovers.f k l0 a1 a2 = some r) :
  Calls Try.prog 111 #[.slice A0 l0.length c0, .int .i64 a1, .int .i64 a2] w fun e w' => e = .returned (.bool r) ∧ Below w.heap.size w w' := by
 have HR0 := Aside0.mk hr0
 have HC0 := Aside0.mk hc0
 clear hr0 hc0
 have HB := Aside0.mk (Below.refl w.heap.size w)
 have H : ((spec_spIn.f a1 a2).bind fun t731 => (if t731 = true then (some true) else (spec_shCovers.l0 k l0 a1 a2 (l0.length : Int) 0))) = some r := h
 clear h
 replace H := Option.bind_eq_some_iff.mp H
 obtain ⟨t731, A40, H⟩ := H
 replace H : (if t731 = true then (some true) else (spec_shCovers.l0 k l0 a1 a2 (l0.length : Int) 0)) = some r := H
 have A4 := Aside0.mk A40
 clear A40
 by_cases c5 : t731 = true
 ·subst c5
  have H1 : (some true) = some r := by rw [if_pos rfl] at H; exact H
  clear H
  have H := H1
  clear H1
  obtain rfl := Option.some.inj H
  go_enter Try.func111, Try.ntmps111
  go_wp2_with (((with_reducible refine gate_callee (f := 70) rfl ?_); refine goesL_ (some 12) rfl rfl Try.func70 (by kernel_rfl) rfl #[.int .i64 a1, .int .i64 a2] rfl (by (try simp only [List.map_toArray, List.map_cons, List.map_nil]); rfl) ?_; (with_reducible refine (spec_spIn.calls a1 a2 true _ A4.out).mono ?_); rintro e w' ⟨rfl, ⟨nd, rfl⟩⟩; refine ⟨_, rfl, ?_⟩))
  go_ret
  exact ⟨by rfl, by repeat ((with_reducible first | exact HB.out | apply pw_below_drewN))⟩
 ·replace c5 := Bool.eq_false_iff.mpr c5
  subst c5
  have H1 : (spec_shCovers.l0 k l0 a1 a2 (l0.length : Int) 0) = some r := by rw [if_neg (show ¬ (false = true) by decide)] at H; exact H
  clear H
  have H := H1
  clear H1
  have H' := Aside0.mk H
  clear H
  go_enter Try.func111, Try.ntmps111
  go_wp2_with (((with_reducible refine gate_callee (f := 70) rfl ?_); refine goesL_ (some 12) rfl rfl Try.func70 (by kernel_rfl) rfl #[.int .i64 a1, .int .i64 a2] rfl (by (try simp only [List.map_toArray, List.map_cons, List.map_nil]); rfl) ?_; (with_reducible refine (spec_spIn.calls a1 a2 false _ A4.out).mono ?_); rintro e w' ⟨rfl, ⟨nd, rfl⟩⟩; refine ⟨_, rfl, ?_⟩))
  go_loopg [15] k (fun kq v15 w' => ∃ (x15_1 : Int), v15 = .int .i64 x15_1 ∧ Aside0 (spec_shCovers.l0 kq l0 a1 a2 (l0.length : Int) x15_1 = some r) ∧ Aside0 (kq ≤ k) ∧ Aside0 (Below w.heap.size w w'))
  case atStart => exact ⟨(0), (by rfl), H', ⟨Nat.le_refl _⟩, ⟨by repeat ((with_reducible first | exact HB.out | apply pw_below_drewN))⟩⟩
  case round =>
   clear H'
   try clear c1
   try clear p2
   try clear c5
   obtain ⟨x15_1, rfl, HA, HK1, HB⟩ := hrel
   cases gk with
   | zero => exact absurd HA.out (by simp [spec_shCovers.l0])
   | succ k1 =>
    have H := HA.out
    clear HA
    simp only [spec_shCovers.l0] at H
    by_cases c6 : x15_1 < (l0.length : Int)
    ·rw [if_pos c6] at H
     have c6b0 : decide (x15_1 < (l0.length : Int)) = true := decide_eq_true c6
     clear c6
     have H' := Aside0.mk H
     clear H
     go_wp2
     go_loopg [8] k1 (fun kq v8 w' => ∃ (x8_2 : Int), v8 = .int .i64 x8_2 ∧ Aside0 (spec_shCovers.l1 kq l0 a1 a2 x15_1 x8_2 (l0.length : Int) x15_1 = some r) ∧ Aside0 (kq ≤ k1) ∧ Aside0 (Below w.heap.size w w'))
     case atStart => exact ⟨(0), (by rfl), H', ⟨Nat.le_refl _⟩, ⟨by repeat ((with_reducible exact HB.out))⟩⟩
     case round =>
      clear H'
      try clear c1
      try clear p2
      try clear c5
      try clear c6
      try clear c6b0
      try clear p2
      obtain ⟨x8_2, rfl, HA, HK2, HB⟩ := hrel
      cases gk with
      | zero => exact absurd HA.out (by simp [spec_shCovers.l1])
      | succ k2 =>
       have H := HA.out
       clear HA
       simp only [spec_shCovers.l1] at H
       by_cases c7 : x8_2 < x15_1
       ·rw [if_pos c7] at H
        have c7b0 : decide (x8_2 < x15_1) = true := decide_eq_true c7
        clear c7
        have HC8 := Aside0.mk H
        clear H
        go_upto_region 9 with (fail)
        go_cut [32] (fun v32 wc => ∃ (kq : Nat) (x32_7 : Bool), v32 = .bool x32_7 ∧ Aside0 (spec_shCovers.j2 kq l0 a1 a2 x15_1 x8_2 (l0.length : Int) x15_1 x32_7 = some r) ∧ Aside0 (kq ≤ k2) ∧ Aside0 (Below w.heap.size w wc))
        case first =>
         have H := HC8.out
         clear HC8
         replace H := Option.bind_eq_some_iff.mp H
         obtain ⟨t732, A90, H⟩ := H
         replace H : (if t732 = true then ((spec_spIn.f a1 x8_2).bind fun t733 => (spec_shCovers.j2 k2 l0 a1 a2 x15_1 x8_2 (l0.length : Int) x15_1 (!t733))) else (spec_shCovers.j2 k2 l0 a1 a2 x15_1 x8_2 (l0.length : Int) x15_1 true)) = some r := H
         have A9 := Aside0.mk A90
         clear A90
         by_cases c10 : t732 = true
         ·subst c10
          have H1 : ((spec_spIn.f a1 x8_2).bind fun t733 => (spec_shCovers.j2 k2 l0 a1 a2 x15_1 x8_2 (l0.length : Int) x15_1 (!t733))) = some r := by rw [if_pos rfl] at H; exact H
          clear H
          have H := H1
          clear H1
          replace H := Option.bind_eq_some_iff.mp H
          obtain ⟨t733, A110, H⟩ := H
          replace H : (spec_shCovers.j2 k2 l0 a1 a2 x15_1 x8_2 (l0.length : Int) x15_1 (!t733)) = some r := H
          have A11 := Aside0.mk A110
          clear A110
          have H' := Aside0.mk H
          clear H
          go_wp2_with (first | ((with_reducible refine gate_callee (f := 70) rfl ?_); refine goesL_ (some 25) rfl rfl Try.func70 (by kernel_rfl) rfl #[.int .i64 a1, .int .i64 x15_1] rfl (by (try simp only [List.map_toArray, List.map_cons, List.map_nil]); rfl) ?_; (with_reducible refine (spec_spIn.calls a1 x15_1 true _ A9.out).mono ?_); rintro e w' ⟨rfl, ⟨nd, rfl⟩⟩; refine ⟨_, rfl, ?_⟩) | (go_at_call 70; (with_reducible refine (spec_spIn.calls a1 x8_2 t733 _ A11.out).mono ?_); rintro e w' ⟨rfl, ⟨nd, rfl⟩⟩))
          go_meet
          case rel => exact ⟨_, (!t733), (by rfl), H', ⟨by have := HK1.out; have := HK2.out; omega⟩, ⟨by repeat ((with_reducible first | exact HB.out | apply pw_below_drewN))⟩⟩
         ·replace c10 := Bool.eq_false_iff.mpr c10
          subst c10
          have H1 : (spec_shCovers.j2 k2 l0 a1 a2 x15_1 x8_2 (l0.length : Int) x15_1 true) = some r := by rw [if_neg (show ¬ (false = true) by decide)] at H; exact H
          clear H
          have H := H1
          clear H1
          have H' := Aside0.mk H
          clear H
          go_wp2_with (((with_reducible refine gate_callee (f := 70) rfl ?_); refine goesL_ (some 25) rfl rfl Try.func70 (by kernel_rfl) rfl #[.int .i64 a1, .int .i64 x15_1] rfl (by (try simp only [List.map_toArray, List.map_cons, List.map_nil]); rfl) ?_; (with_reducible refine (spec_spIn.calls a1 x15_1 false _ A9.out).mono ?_); rintro e w' ⟨rfl, ⟨nd, rfl⟩⟩; refine ⟨_, rfl, ?_⟩))
          go_meet
          case rel => exact ⟨_, (true), (by rfl), H', ⟨by have := HK1.out; have := HK2.out; omega⟩, ⟨by repeat ((with_reducible first | exact HB.out | apply pw_below_drewN))⟩⟩
        case rest =>
         clear HC8
         try clear c1
         try clear p2
         try clear c5
         try clear c6
         try clear c6b0
         try clear c7
         try clear c7b0
         try clear c10
         try clear c11
         try clear p2
         obtain ⟨kq, x32_7, rfl, HA, HJ7, HB⟩ := hcut
         cases kq with
         | zero => exact absurd HA.out (by simp [spec_shCovers.j2])
         | succ kj7 =>
          have H := HA.out
          clear HA
          simp only [spec_shCovers.j2] at H
          by_cases c12 : x32_7 = true
          ·subst c12
           have H1 : (spec_shCovers.l1 kj7 l0 a1 a2 x15_1 (wrap64 (x8_2 + 1)) (l0.length : Int) x15_1) = some r := by rw [if_pos rfl] at H; exact H
           clear H
           have H := H1
           clear H1
           have H' := Aside0.mk H
           clear H
           go_wp2
           go_roundg kj7
           case measure => have := HK1.out; have := HK2.out; have := HJ7.out; omega
           case rel => exact ⟨(wrap64 (x8_2 + 1)), (by rfl), H', ⟨by have := HK1.out; have := HK2.out; have := HJ7.out; omega⟩, ⟨by repeat ((with_reducible exact HB.out))⟩⟩
          ·replace c12 := Bool.eq_false_iff.mpr c12
           subst c12
           have H1 : (if 0 ≤ a2 then (if a2 < (l0.length : Int) then (if 0 ≤ x15_1 then (if x15_1 < (l0.length : Int) then (if 0 ≤ x8_2 then (if x8_2 < (l0.length : Int) then ((spec_shBetween.f (rd_L3 l0 a2) (rd_L3 l0 x15_1) (rd_L3 l0 x8_2)).bind fun t737 => (if t737 = true then (some true) else (spec_shCovers.l2 kj7 l0 a1 a2 x15_1 x8_2 0 (l0.length : Int) x15_1))) else (none)) else (none)) else (none)) else (none)) else (none)) else (none)) = some r := by rw [if_neg (show ¬ (false = true) by decide)] at H; exact H
           clear H
           have H := H1
           clear H1
           by_cases c13 : 0 ≤ a2
           ·rw [if_pos c13] at H
            have c13b0 : decide (0 ≤ a2) = true := decide_eq_true c13
            clear c13
            by_cases c14 : a2 < (l0.length : Int)
            ·rw [if_pos c14] at H
             have c14b0 : decide (a2 < (l0.length : Int)) = true := decide_eq_true c14
             clear c14
             by_cases c15 : 0 ≤ x15_1
             ·rw [if_pos c15] at H
              have c15b0 : decide (0 ≤ x15_1) = true := decide_eq_true c15
              clear c15
              by_cases c16 : x15_1 < (l0.length : Int)
              ·rw [if_pos c16] at H
               have c16b0 : decide (x15_1 < (l0.length : Int)) = true := decide_eq_true c16
               clear c16
               by_cases c17 : 0 ≤ x8_2
               ·rw [if_pos c17] at H
                have c17b0 : decide (0 ≤ x8_2) = true := decide_eq_true c17
                clear c17
                by_cases c18 : x8_2 < (l0.length : Int)
                ·rw [if_pos c18] at H
                 have c18b0 : decide (x8_2 < (l0.length : Int)) = true := decide_eq_true c18
                 clear c18
                 replace H := Option.bind_eq_some_iff.mp H
                 obtain ⟨t737, A190, H⟩ := H
                 replace H : (if t737 = true then (some true) else (spec_shCovers.l2 kj7 l0 a1 a2 x15_1 x8_2 0 (l0.length : Int) x15_1)) = some r := H
                 have A19 := Aside0.mk A190
                 clear A190
                 by_cases c20 : t737 = true
                 ·subst c20
                  have H1 : (some true) = some r := by rw [if_pos rfl] at H; exact H
                  clear H
                  have H := H1
                  clear H1
                  obtain rfl := Option.some.inj H
                  try go_wp2
                  have n0_ := Aside0.mk (below_drew1 HB.out)
                  clear HB
                  have HB := n0_
                  clear n0_
                  have p734 : 0 ≤ (a2 : Int) := of_decide_eq_true (by (with_reducible assumption))
                  have q734 : a2 < (l0.length : Int) := of_decide_eq_true (by (with_reducible assumption))
                  obtain ⟨ad734, A734_0, c734_0, e734, hx734_0, hl734_0, hi734_0⟩ := at_L3 HR0.out a2 p734 q734
                  have hw734_0 := hx734_0
                  cases e734
                  replace hx734_0 := (HB.out.cell (World.block_lt_of_cell? w _ hx734_0)).trans hx734_0
                  have HR734_0 := Aside0.mk hi734_0
                  have HC734_0 := Aside0.mk hl734_0
                  clear hi734_0 hl734_0
                  replace p734 := eq_true p734
                  replace q734 := eq_true q734
                  have p735 : 0 ≤ (x15_1 : Int) := of_decide_eq_true (by (with_reducible assumption))
                  have q735 : x15_1 < (l0.length : Int) := of_decide_eq_true (by (with_reducible assumption))
                  obtain ⟨ad735, A735_0, c735_0, e735, hx735_0, hl735_0, hi735_0⟩ := at_L3 HR0.out x15_1 p735 q735
                  have hw735_0 := hx735_0
                  obtain rfl : ad734 = ad735 := (by injection e735)
                  replace hx735_0 := (HB.out.cell (World.block_lt_of_cell? w _ hx735_0)).trans hx735_0
                  have HR735_0 := Aside0.mk hi735_0
                  have HC735_0 := Aside0.mk hl735_0
                  clear hi735_0 hl735_0
                  replace p735 := eq_true p735
                  replace q735 := eq_true q735
                  have p736 : 0 ≤ (x8_2 : Int) := of_decide_eq_true (by (with_reducible assumption))
                  have q736 : x8_2 < (l0.length : Int) := of_decide_eq_true (by (with_reducible assumption))
                  obtain ⟨ad736, A736_0, c736_0, e736, hx736_0, hl736_0, hi736_0⟩ := at_L3 HR0.out x8_2 p736 q736
                  have hw736_0 := hx736_0
                  obtain rfl : ad734 = ad736 := (by injection e736)
                  replace hx736_0 := (HB.out.cell (World.block_lt_of_cell? w _ hx736_0)).trans hx736_0
                  have HR736_0 := Aside0.mk hi736_0
                  have HC736_0 := Aside0.mk hl736_0
                  clear hi736_0 hl736_0
                  replace p736 := eq_true p736
                  replace q736 := eq_true q736
                  refine start_ (n := 13) (S := fun w' => w'.cell? (ad734.add (a2).toNat) = some (.slice A734_0 (rd_L3 l0 a2).length c734_0) ∧ w'.cell? (ad734.add (x15_1).toNat) = some (.slice A735_0 (rd_L3 l0 x15_1).length c735_0) ∧ w'.cell? (ad734.add (x8_2).toNat) = some (.slice A736_0 (rd_L3 l0 x8_2).length c736_0)) (ds := []) #[false, false, false, false, false, false, false, false, false, false, false, false, false] (by kernel_rfl) rfl rfl ⟨((HB.out.cell (World.block_lt_of_cell? w _ hw734_0)).trans hw734_0), ((HB.out.cell (World.block_lt_of_cell? w _ hw735_0)).trans hw735_0), ((HB.out.cell (World.block_lt_of_cell? w _ hw736_0)).trans hw736_0)⟩ (fun hHeld => ?_); refine with_tabW spec_shCovers.tab10 spec_shCovers.bits10 (fun HT_ HW_ => ?_)
                  generalize wc.drew = w21 at HB HR734_0 HR735_0 HR736_0 hx734_0 hx735_0 hx736_0 hHeld ⊢
                  refine pure_ (i := 0) (N := some 33) (v := ?_) (a' := ?_) #[true, false, false, false, false, false, false, false, false, false, false, false, false] rfl rfl (any_of HT_.out (by kernel_rfl)) (fun _ _ _ h => h) (Or.inl ⟨by rfl, ?_⟩) ?_ ?_
                  rotate_left
                  ·intro w'
                   go_simp
                   with_reducible rfl
                  rotate_left
                  ·simp only [Act.put, List.setIfInBounds_toArray, List.set_cons_zero, List.set_cons_succ, i64_w, i32_w]
                   rfl
                  refine pure_ (i := 1) (N := some 34) (v := ?_) (a' := ?_) #[true, true, false, false, false, false, false, false, false, false, false, false, false] rfl rfl (any_of HT_.out (by kernel_rfl)) (fun _ _ _ h => h) (Or.inl ⟨by rfl, ?_⟩) ?_ ?_
                  rotate_left
                  ·intro w'
                   go_simp
                   with_reducible rfl
                  rotate_left
                  ·simp only [Act.put, List.setIfInBounds_toArray, List.set_cons_zero, List.set_cons_succ, i64_w, i32_w]
                   rfl
                  refine pure_ (i := 2) (N := some 35) (v := ?_) (a' := ?_) #[true, true, true, false, false, false, false, false, false, false, false, false, false] rfl rfl (any_of HT_.out (by kernel_rfl)) (fun _ _ _ h => h) (Or.inl ⟨by rfl, ?_⟩) ?_ ?_
                  rotate_left
                  ·intro w'
                   go_simp
                   with_reducible rfl
                  rotate_left
                  ·simp only [Act.put, List.setIfInBounds_toArray, List.set_cons_zero, List.set_cons_succ, i64_w, i32_w]
                   rfl
                  refine pure_ (i := 4) (N := some 37) (v := ?_) (a' := ?_) #[true, true, true, false, true, false, false, false, false, false, false, false, false] rfl rfl (any_of HT_.out (by kernel_rfl)) (fun _ _ _ h => h) (Or.inl ⟨by rfl, ?_⟩) ?_ ?_
                  rotate_left
                  ·intro w'
                   go_simp
                   with_reducible rfl
                  rotate_left
                  ·simp only [Act.put, List.setIfInBounds_toArray, List.set_cons_zero, List.set_cons_succ, i64_w, i32_w]
                   rfl
                  refine pure_ (i := 5) (N := some 38) (v := ?_) (a' := ?_) #[true, true, true, false, true, true, false, false, false, false, false, false, false] rfl rfl (any_of HT_.out (by kernel_rfl)) (fun _ _ _ h => h) (Or.inl ⟨by rfl, ?_⟩) ?_ ?_
                  rotate_left
                  ·intro w'
                   go_simp
                   with_reducible rfl
                  rotate_left
                  ·simp only [Act.put, List.setIfInBounds_toArray, List.set_cons_zero, List.set_cons_succ, i64_w, i32_w]
                   rfl
                  refine pure_ (i := 6) (N := some 39) (v := ?_) (a' := ?_) #[true, true, true, false, true, true, true, false, false, false, false, false, false] rfl rfl (any_of HT_.out (by kernel_rfl)) (fun _ _ _ h => h) (Or.inl ⟨by rfl, ?_⟩) ?_ ?_
                  rotate_left
                  ·intro w'
                   go_simp
                   with_reducible rfl
                  rotate_left
                  ·simp only [Act.put, List.setIfInBounds_toArray, List.set_cons_zero, List.set_cons_succ, i64_w, i32_w]
                   rfl
                  refine pure_ (i := 8) (N := some 41) (v := ?_) (a' := ?_) #[true, true, true, false, true, true, true, false, true, false, false, false, false] rfl rfl (any_of HT_.out (by kernel_rfl)) (fun _ _ _ h => h) (Or.inl ⟨by rfl, ?_⟩) ?_ ?_
                  rotate_left
                  ·intro w'
                   go_simp
                   with_reducible rfl
                  rotate_left
                  ·simp only [Act.put, List.setIfInBounds_toArray, List.set_cons_zero, List.set_cons_succ, i64_w, i32_w]
                   rfl
                  refine pure_ (i := 9) (N := some 42) (v := ?_) (a' := ?_) #[true, true, true, false, true, true, true, false, true, true, false, false, false] rfl rfl (any_of HT_.out (by kernel_rfl)) (fun _ _ _ h => h) (Or.inl ⟨by rfl, ?_⟩) ?_ ?_
                  rotate_left
                  ·intro w'
                   go_simp
                   with_reducible rfl
                  rotate_left
                  ·simp only [Act.put, List.setIfInBounds_toArray, List.set_cons_zero, List.set_cons_succ, i64_w, i32_w]
                   rfl
                  refine pure_ (i := 10) (N := some 43) (v := ?_) (a' := ?_) #[true, true, true, false, true, true, true, false, true, true, true, false, false] rfl rfl (any_of HT_.out (by kernel_rfl)) (fun _ _ _ h => h) (Or.inl ⟨by rfl, ?_⟩) ?_ ?_
                  rotate_left
                  ·intro w'
                   go_simp
                   with_reducible rfl
                  rotate_left
                  ·simp only [Act.put, List.setIfInBounds_toArray, List.set_cons_zero, List.set_cons_succ, i64_w, i32_w]
                   rfl
                  refine take_ (i := 3) (N := some 36) (v := ?_) (a' := ?_) #[true, true, true, true, true, true, true, false, true, true, true, false, false] rfl rfl (take_ofW HT_.out HW_.out (by kernel_rfl)) (fun _ _ _ h => h) (Or.inl ⟨by rfl, ?_⟩) hHeld ?_ ?_
                  rotate_left
                  ·rintro w' ⟨s0, s1, s2⟩
                   go_simp
                   with_reducible rfl
                  rotate_left
                  ·simp only [Act.put, List.setIfInBounds_toArray, List.set_cons_zero, List.set_cons_succ, i64_w, i32_w]
                   rfl
                  refine take_ (i := 7) (N := some 40) (v := ?_) (a' := ?_) #[true, true, true, true, true, true, true, true, true, true, true, false, false] rfl rfl (take_ofW HT_.out HW_.out (by kernel_rfl)) (fun _ _ _ h => h) (Or.inl ⟨by rfl, ?_⟩) hHeld ?_ ?_
                  rotate_left
                  ·rintro w' ⟨s0, s1, s2⟩
                   go_simp
                   with_reducible rfl
                  rotate_left
                  ·simp only [Act.put, List.setIfInBounds_toArray, List.set_cons_zero, List.set_cons_succ, i64_w, i32_w]
                   rfl
                  refine take_ (i := 11) (N := some 44) (v := ?_) (a' := ?_) #[true, true, true, true, true, true, true, true, true, true, true, true, false] rfl rfl (take_ofW HT_.out HW_.out (by kernel_rfl)) (fun _ _ _ h => h) (Or.inl ⟨by rfl, ?_⟩) hHeld ?_ ?_
                  rotate_left
                  ·rintro w' ⟨s0, s1, s2⟩
                   go_simp
                   with_reducible rfl
                  rotate_left
                  ·simp only [Act.put, List.setIfInBounds_toArray, List.set_cons_zero, List.set_cons_succ, i64_w, i32_w]
                   rfl
                  refine one_ (i := 12) (N := some 45) #[true, true, true, true, true, true, true, true, true, true, true, true, true] rfl rfl (one_of HT_.out (by kernel_rfl)) (by decide) (fun K hK => ?_)
                  refine goes_ Try.func119 (by kernel_rfl) rfl #[.slice A734_0 (rd_L3 l0 a2).length c734_0, .slice A735_0 (rd_L3 l0 x15_1).length c735_0, .slice A736_0 (rd_L3 l0 x8_2).length c736_0] (by rfl) rfl rfl (by (try simp only [List.map_toArray, List.map_cons, List.map_nil]); rfl) ?_
                  with_reducible refine (spec_shBetween.calls _ _ (rd_L3 l0 a2) _ _ (rd_L3 l0 x15_1) _ _ (rd_L3 l0 x8_2) true _ ?side1 ?side2 ?side3 ?side4 ?side5 ?side6 A19.out).mono ?_
                  (case side1 => repeat (exact (Kd.C_below HR734_0.out HB.out)))
                  (case side2 => exact HC734_0.out)
                  (case side3 => repeat (exact (Kd.C_below HR735_0.out HB.out)))
                  (case side4 => exact HC735_0.out)
                  (case side5 => repeat (exact (Kd.C_below HR736_0.out HB.out)))
                  (case side6 => exact HC736_0.out)
                  rintro e w22 ⟨rfl, hb⟩
                  refine ⟨_, rfl, ?_⟩
                  have n0_ := Aside0.mk (below_step (by repeat ((with_reducible exact HB.out))) hb)
                  clear HB
                  have HB := n0_
                  clear n0_
                  (try clear hb)
                  skip
                  skip
                  skip
                  refine hK.out _ _ ⟨((HB.out.cell (World.block_lt_of_cell? w _ hw734_0)).trans hw734_0), ((HB.out.cell (World.block_lt_of_cell? w _ hw735_0)).trans hw735_0), ((HB.out.cell (World.block_lt_of_cell? w _ hw736_0)).trans hw736_0)⟩ (fun hHeld => ?_)
                  clear hK K
                  refine norm_ (a' := ?_) ?_ ?_
                  rotate_left
                  ·show Act.put _ (some 45) _ = _
                   simp only [Act.put, List.setIfInBounds_toArray, List.set_cons_zero, List.set_cons_succ, i64_w, i32_w]
                   rfl
                  refine done_ (done_of HT_.out (by kernel_rfl)) ?_
                  try go_wp2
                  go_ret
                  exact ⟨by rfl, by repeat ((with_reducible exact HB.out))⟩
                 ·replace c20 := Bool.eq_false_iff.mpr c20
                  subst c20
                  have H1 : (spec_shCovers.l2 kj7 l0 a1 a2 x15_1 x8_2 0 (l0.length : Int) x15_1) = some r := by rw [if_neg (show ¬ (false = true) by decide)] at H; exact H
                  clear H
                  have H := H1
                  clear H1
                  have H' := Aside0.mk H
                  clear H
                  try go_wp2
                  have n0_ := Aside0.mk (below_drew1 HB.out)
                  clear HB
                  have HB := n0_
                  clear n0_
                  have p734 : 0 ≤ (a2 : Int) := of_decide_eq_true (by (with_reducible assumption))
                  have q734 : a2 < (l0.length : Int) := of_decide_eq_true (by (with_reducible assumption))
                  obtain ⟨ad734, A734_0, c734_0, e734, hx734_0, hl734_0, hi734_0⟩ := at_L3 HR0.out a2 p734 q734
                  have hw734_0 := hx734_0
                  cases e734
                  replace hx734_0 := (HB.out.cell (World.block_lt_of_cell? w _ hx734_0)).trans hx734_0
                  have HR734_0 := Aside0.mk hi734_0
                  have HC734_0 := Aside0.mk hl734_0
                  clear hi734_0 hl734_0
                  replace p734 := eq_true p734
                  replace q734 := eq_true q734
                  have p735 : 0 ≤ (x15_1 : Int) := of_decide_eq_true (by (with_reducible assumption))
                  have q735 : x15_1 < (l0.length : Int) := of_decide_eq_true (by (with_reducible assumption))
                  obtain ⟨ad735, A735_0, c735_0, e735, hx735_0, hl735_0, hi735_0⟩ := at_L3 HR0.out x15_1 p735 q735
                  have hw735_0 := hx735_0
                  obtain rfl : ad734 = ad735 := (by injection e735)
                  replace hx735_0 := (HB.out.cell (World.block_lt_of_cell? w _ hx735_0)).trans hx735_0
                  have HR735_0 := Aside0.mk hi735_0
                  have HC735_0 := Aside0.mk hl735_0
                  clear hi735_0 hl735_0
                  replace p735 := eq_true p735
                  replace q735 := eq_true q735
                  have p736 : 0 ≤ (x8_2 : Int) := of_decide_eq_true (by (with_reducible assumption))
                  have q736 : x8_2 < (l0.length : Int) := of_decide_eq_true (by (with_reducible assumption))
                  obtain ⟨ad736, A736_0, c736_0, e736, hx736_0, hl736_0, hi736_0⟩ := at_L3 HR0.out x8_2 p736 q736
                  have hw736_0 := hx736_0
                  obtain rfl : ad734 = ad736 := (by injection e736)
                  replace hx736_0 := (HB.out.cell (World.block_lt_of_cell? w _ hx736_0)).trans hx736_0
                  have HR736_0 := Aside0.mk hi736_0
                  have HC736_0 := Aside0.mk hl736_0
                  clear hi736_0 hl736_0
                  replace p736 := eq_true p736
                  replace q736 := eq_true q736
                  refine start_ (n := 13) (S := fun w' => w'.cell? (ad734.add (a2).toNat) = some (.slice A734_0 (rd_L3 l0 a2).length c734_0) ∧ w'.cell? (ad734.add (x15_1).toNat) = some (.slice A735_0 (rd_L3 l0 x15_1).length c735_0) ∧ w'.cell? (ad734.add (x8_2).toNat) = some (.slice A736_0 (rd_L3 l0 x8_2).length c736_0)) (ds := []) #[false, false, false, false, false, false, false, false, false, false, false, false, false] (by kernel_rfl) rfl rfl ⟨((HB.out.cell (World.block_lt_of_cell? w _ hw734_0)).trans hw734_0), ((HB.out.cell (World.block_lt_of_cell? w _ hw735_0)).trans hw735_0), ((HB.out.cell (World.block_lt_of_cell? w _ hw736_0)).trans hw736_0)⟩ (fun hHeld => ?_); refine with_tabW spec_shCovers.tab10 spec_shCovers.bits10 (fun HT_ HW_ => ?_)
                  generalize wc.drew = w23 at HB HR734_0 HR735_0 HR736_0 hx734_0 hx735_0 hx736_0 hHeld ⊢
                  refine pure_ (i := 0) (N := some 33) (v := ?_) (a' := ?_) #[true, false, false, false, false, false, false, false, false, false, false, false, false] rfl rfl (any_of HT_.out (by kernel_rfl)) (fun _ _ _ h => h) (Or.inl ⟨by rfl, ?_⟩) ?_ ?_
                  rotate_left
                  ·intro w'
                   go_simp
                   with_reducible rfl
                  rotate_left
                  ·simp only [Act.put, List.setIfInBounds_toArray, List.set_cons_zero, List.set_cons_succ, i64_w, i32_w]
                   rfl
                  refine pure_ (i := 1) (N := some 34) (v := ?_) (a' := ?_) #[true, true, false, false, false, false, false, false, false, false, false, false, false] rfl rfl (any_of HT_.out (by kernel_rfl)) (fun _ _ _ h => h) (Or.inl ⟨by rfl, ?_⟩) ?_ ?_
                  rotate_left
                  ·intro w'
                   go_simp
                   with_reducible rfl
                  rotate_left
                  ·simp only [Act.put, List.setIfInBounds_toArray, List.set_cons_zero, List.set_cons_succ, i64_w, i32_w]
                   rfl
                  refine pure_ (i := 2) (N := some 35) (v := ?_) (a' := ?_) #[true, true, true, false, false, false, false, false, false, false, false, false, false] rfl rfl (any_of HT_.out (by kernel_rfl)) (fun _ _ _ h => h) (Or.inl ⟨by rfl, ?_⟩) ?_ ?_
                  rotate_left
                  ·intro w'
                   go_simp
                   with_reducible rfl
                  rotate_left
                  ·simp only [Act.put, List.setIfInBounds_toArray, List.set_cons_zero, List.set_cons_succ, i64_w, i32_w]
                   rfl
                  refine pure_ (i := 4) (N := some 37) (v := ?_) (a' := ?_) #[true, true, true, false, true, false, false, false, false, false, false, false, false] rfl rfl (any_of HT_.out (by kernel_rfl)) (fun _ _ _ h => h) (Or.inl ⟨by rfl, ?_⟩) ?_ ?_
                  rotate_left
                  ·intro w'
                   go_simp
                   with_reducible rfl
                  rotate_left
                  ·simp only [Act.put, List.setIfInBounds_toArray, List.set_cons_zero, List.set_cons_succ, i64_w, i32_w]
                   rfl
                  refine pure_ (i := 5) (N := some 38) (v := ?_) (a' := ?_) #[true, true, true, false, true, true, false, false, false, false, false, false, false] rfl rfl (any_of HT_.out (by kernel_rfl)) (fun _ _ _ h => h) (Or.inl ⟨by rfl, ?_⟩) ?_ ?_
                  rotate_left
                  ·intro w'
                   go_simp
                   with_reducible rfl
                  rotate_left
                  ·simp only [Act.put, List.setIfInBounds_toArray, List.set_cons_zero, List.set_cons_succ, i64_w, i32_w]
                   rfl
                  refine pure_ (i := 6) (N := some 39) (v := ?_) (a' := ?_) #[true, true, true, false, true, true, true, false, false, false, false, false, false] rfl rfl (any_of HT_.out (by kernel_rfl)) (fun _ _ _ h => h) (Or.inl ⟨by rfl, ?_⟩) ?_ ?_
                  rotate_left
                  ·intro w'
                   go_simp
                   with_reducible rfl
                  rotate_left
                  ·simp only [Act.put, List.setIfInBounds_toArray, List.set_cons_zero, List.set_cons_succ, i64_w, i32_w]
                   rfl
                  refine pure_ (i := 8) (N := some 41) (v := ?_) (a' := ?_) #[true, true, true, false, true, true, true, false, true, false, false, false, false] rfl rfl (any_of HT_.out (by kernel_rfl)) (fun _ _ _ h => h) (Or.inl ⟨by rfl, ?_⟩) ?_ ?_
                  rotate_left
                  ·intro w'
                   go_simp
                   with_reducible rfl
                  rotate_left
                  ·simp only [Act.put, List.setIfInBounds_toArray, List.set_cons_zero, List.set_cons_succ, i64_w, i32_w]
                   rfl
                  refine pure_ (i := 9) (N := some 42) (v := ?_) (a' := ?_) #[true, true, true, false, true, true, true, false, true, true, false, false, false] rfl rfl (any_of HT_.out (by kernel_rfl)) (fun _ _ _ h => h) (Or.inl ⟨by rfl, ?_⟩) ?_ ?_
                  rotate_left
                  ·intro w'
                   go_simp
                   with_reducible rfl
                  rotate_left
                  ·simp only [Act.put, List.setIfInBounds_toArray, List.set_cons_zero, List.set_cons_succ, i64_w, i32_w]
                   rfl
                  refine pure_ (i := 10) (N := some 43) (v := ?_) (a' := ?_) #[true, true, true, false, true, true, true, false, true, true, true, false, false] rfl rfl (any_of HT_.out (by kernel_rfl)) (fun _ _ _ h => h) (Or.inl ⟨by rfl, ?_⟩) ?_ ?_
                  rotate_left
                  ·intro w'
                   go_simp
                   with_reducible rfl
                  rotate_left
                  ·simp only [Act.put, List.setIfInBounds_toArray, List.set_cons_zero, List.set_cons_succ, i64_w, i32_w]
                   rfl
                  refine take_ (i := 3) (N := some 36) (v := ?_) (a' := ?_) #[true, true, true, true, true, true, true, false, true, true, true, false, false] rfl rfl (take_ofW HT_.out HW_.out (by kernel_rfl)) (fun _ _ _ h => h) (Or.inl ⟨by rfl, ?_⟩) hHeld ?_ ?_
                  rotate_left
                  ·rintro w' ⟨s0, s1, s2⟩
                   go_simp
                   with_reducible rfl
                  rotate_left
                  ·simp only [Act.put, List.setIfInBounds_toArray, List.set_cons_zero, List.set_cons_succ, i64_w, i32_w]
                   rfl
                  refine take_ (i := 7) (N := some 40) (v := ?_) (a' := ?_) #[true, true, true, true, true, true, true, true, true, true, true, false, false] rfl rfl (take_ofW HT_.out HW_.out (by kernel_rfl)) (fun _ _ _ h => h) (Or.inl ⟨by rfl, ?_⟩) hHeld ?_ ?_
                  rotate_left
                  ·rintro w' ⟨s0, s1, s2⟩
                   go_simp
                   with_reducible rfl
                  rotate_left
                  ·simp only [Act.put, List.setIfInBounds_toArray, List.set_cons_zero, List.set_cons_succ, i64_w, i32_w]
                   rfl
                  refine take_ (i := 11) (N := some 44) (v := ?_) (a' := ?_) #[true, true, true, true, true, true, true, true, true, true, true, true, false] rfl rfl (take_ofW HT_.out HW_.out (by kernel_rfl)) (fun _ _ _ h => h) (Or.inl ⟨by rfl, ?_⟩) hHeld ?_ ?_
                  rotate_left
                  ·rintro w' ⟨s0, s1, s2⟩
                   go_simp
                   with_reducible rfl
                  rotate_left
                  ·simp only [Act.put, List.setIfInBounds_toArray, List.set_cons_zero, List.set_cons_succ, i64_w, i32_w]
                   rfl
                  refine one_ (i := 12) (N := some 45) #[true, true, true, true, true, true, true, true, true, true, true, true, true] rfl rfl (one_of HT_.out (by kernel_rfl)) (by decide) (fun K hK => ?_)
                  refine goes_ Try.func119 (by kernel_rfl) rfl #[.slice A734_0 (rd_L3 l0 a2).length c734_0, .slice A735_0 (rd_L3 l0 x15_1).length c735_0, .slice A736_0 (rd_L3 l0 x8_2).length c736_0] (by rfl) rfl rfl (by (try simp only [List.map_toArray, List.map_cons, List.map_nil]); rfl) ?_
                  with_reducible refine (spec_shBetween.calls _ _ (rd_L3 l0 a2) _ _ (rd_L3 l0 x15_1) _ _ (rd_L3 l0 x8_2) false _ ?side1 ?side2 ?side3 ?side4 ?side5 ?side6 A19.out).mono ?_
                  (case side1 => repeat (exact (Kd.C_below HR734_0.out HB.out)))
                  (case side2 => exact HC734_0.out)
                  (case side3 => repeat (exact (Kd.C_below HR735_0.out HB.out)))
                  (case side4 => exact HC735_0.out)
                  (case side5 => repeat (exact (Kd.C_below HR736_0.out HB.out)))
                  (case side6 => exact HC736_0.out)
                  rintro e w24 ⟨rfl, hb⟩
                  refine ⟨_, rfl, ?_⟩
                  have n0_ := Aside0.mk (below_step (by repeat ((with_reducible exact HB.out))) hb)
                  clear HB
                  have HB := n0_
                  clear n0_
                  (try clear hb)
                  skip
                  skip
                  skip
                  refine hK.out _ _ ⟨((HB.out.cell (World.block_lt_of_cell? w _ hw734_0)).trans hw734_0), ((HB.out.cell (World.block_lt_of_cell? w _ hw735_0)).trans hw735_0), ((HB.out.cell (World.block_lt_of_cell? w _ hw736_0)).trans hw736_0)⟩ (fun hHeld => ?_)
                  clear hK K
                  refine norm_ (a' := ?_) ?_ ?_
                  rotate_left
                  ·show Act.put _ (some 45) _ = _
                   simp only [Act.put, List.setIfInBounds_toArray, List.set_cons_zero, List.set_cons_succ, i64_w, i32_w]
                   rfl
                  refine done_ (done_of HT_.out (by kernel_rfl)) ?_
                  try go_wp2
                  go_loopg [9] kj7 (fun kq v9 w' => ∃ (x9_4 : Int), v9 = .int .i64 x9_4 ∧ Aside0 (spec_shCovers.l2 kq l0 a1 a2 x15_1 x8_2 x9_4 (l0.length : Int) x15_1 = some r) ∧ Aside0 (kq ≤ kj7) ∧ Aside0 (Below w.heap.size w w'))
                  case atStart => exact ⟨(0), (by rfl), H', ⟨Nat.le_refl _⟩, ⟨by repeat ((with_reducible exact HB.out))⟩⟩
                  case round =>
                   clear H'
                   try clear c1
                   try clear c2
                   try clear p2
                   try clear c5
                   try clear c6
                   try clear c6b0
                   try clear p6
                   try clear c7
                   try clear c7b0
                   try clear p7
                   try clear q7
                   try clear hx7
                   try clear c10
                   try clear c11
                   try clear c12
                   try clear c13
                   try clear c13b0
                   try clear c14
                   try clear c14b0
                   try clear c15
                   try clear c15b0
                   try clear c16
                   try clear c16b0
                   try clear c17
                   try clear c17b0
                   try clear c18
                   try clear c18b0
                   try clear c20
                   try clear hx734_0
                   try clear hx735_0
                   try clear hx736_0
                   try clear p2
                   try clear p734
                   try clear p735
                   try clear p736
                   try clear q734
                   try clear q735
                   try clear q736
                   obtain ⟨x9_4, rfl, HA, HK4, HB⟩ := hrel
                   cases gk with
                   | zero => exact absurd HA.out (by simp [spec_shCovers.l2])
                   | succ k4 =>
                    have H := HA.out
                    clear HA
                    simp only [spec_shCovers.l2] at H
                    by_cases c25 : x9_4 < x8_2
                    ·rw [if_pos c25] at H
                     have c25b0 : decide (x9_4 < x8_2) = true := decide_eq_true c25
                     clear c25
                     replace H := Option.bind_eq_some_iff.mp H
                     obtain ⟨t738, A260, H⟩ := H
                     replace H : (if t738 = true then (if 0 ≤ a2 then (if a2 < (l0.length : Int) then (if 0 ≤ x15_1 then (if x15_1 < (l0.length : Int) then (if 0 ≤ x8_2 then (if x8_2 < (l0.length : Int) then (if 0 ≤ x9_4 then (if x9_4 < (l0.length : Int) then ((spec_shWithin.f (rd_L3 l0 a2) (rd_L3 l0 x15_1) (rd_L3 l0 x8_2) (rd_L3 l0 x9_4)).bind fun t743 => (if t743 = true then (some true) else (spec_shCovers.l2 k4 l0 a1 a2 x15_1 x8_2 (wrap64 (x9_4 + 1)) (l0.length : Int) x15_1))) else (none)) else (none)) else (none)) else (none)) else (none)) else (none)) else (none)) else (none)) else (spec_shCovers.l2 k4 l0 a1 a2 x15_1 x8_2 (wrap64 (x9_4 + 1)) (l0.length : Int) x15_1)) = some r := H
                     have A26 := Aside0.mk A260
                     clear A260
                     by_cases c27 : t738 = true
                     ·subst c27
                      have H1 : (if 0 ≤ a2 then (if a2 < (l0.length : Int) then (if 0 ≤ x15_1 then (if x15_1 < (l0.length : Int) then (if 0 ≤ x8_2 then (if x8_2 < (l0.length : Int) then (if 0 ≤ x9_4 then (if x9_4 < (l0.length : Int) then ((spec_shWithin.f (rd_L3 l0 a2) (rd_L3 l0 x15_1) (rd_L3 l0 x8_2) (rd_L3 l0 x9_4)).bind fun t743 => (if t743 = true then (some true) else (spec_shCovers.l2 k4 l0 a1 a2 x15_1 x8_2 (wrap64 (x9_4 + 1)) (l0.length : Int) x15_1))) else (none)) else (none)) else (none)) else (none)) else (none)) else (none)) else (none)) else (none)) = some r := by rw [if_pos rfl] at H; exact H
                      clear H
                      have H := H1
                      clear H1
                      by_cases c28 : 0 ≤ a2
                      ·rw [if_pos c28] at H
                       have c28b0 : decide (0 ≤ a2) = true := decide_eq_true c28
                       clear c28
                       by_cases c29 : a2 < (l0.length : Int)
                       ·rw [if_pos c29] at H
                        have c29b0 : decide (a2 < (l0.length : Int)) = true := decide_eq_true c29
                        clear c29
                        by_cases c30 : 0 ≤ x15_1
                        ·rw [if_pos c30] at H
                         have c30b0 : decide (0 ≤ x15_1) = true := decide_eq_true c30
                         clear c30
                         by_cases c31 : x15_1 < (l0.length : Int)
                         ·rw [if_pos c31] at H
                          have c31b0 : decide (x15_1 < (l0.length : Int)) = true := decide_eq_true c31
                          clear c31
                          by_cases c32 : 0 ≤ x8_2
                          ·rw [if_pos c32] at H
                           have c32b0 : decide (0 ≤ x8_2) = true := decide_eq_true c32
                           clear c32
                           by_cases c33 : x8_2 < (l0.length : Int)
                           ·rw [if_pos c33] at H
                            have c33b0 : decide (x8_2 < (l0.length : Int)) = true := decide_eq_true c33
                            clear c33
                            by_cases c34 : 0 ≤ x9_4
                            ·rw [if_pos c34] at H
                             have c34b0 : decide (0 ≤ x9_4) = true := decide_eq_true c34
                             clear c34
                             by_cases c35 : x9_4 < (l0.length : Int)
                             ·rw [if_pos c35] at H
                              have c35b0 : decide (x9_4 < (l0.length : Int)) = true := decide_eq_true c35
                              clear c35
                              replace H := Option.bind_eq_some_iff.mp H
                              obtain ⟨t743, A360, H⟩ := H
                              replace H : (if t743 = true then (some true) else (spec_shCovers.l2 k4 l0 a1 a2 x15_1 x8_2 (wrap64 (x9_4 + 1)) (l0.length : Int) x15_1)) = some r := H
                              have A36 := Aside0.mk A360
                              clear A360
                              by_cases c37 : t743 = true
                              ·subst c37
                               have H1 : (some true) = some r := by rw [if_pos rfl] at H; exact H
                               clear H
                               have H := H1
                               clear H1
                               obtain rfl := Option.some.inj H
                               try go_wp2
                               have n0_ := Aside0.mk (below_drew1 HB.out)
                               clear HB
                               have HB := n0_
                               clear n0_
                               have p739 : 0 ≤ (a2 : Int) := of_decide_eq_true (by (with_reducible assumption))
                               have q739 : a2 < (l0.length : Int) := of_decide_eq_true (by (with_reducible assumption))
                               obtain ⟨ad739, A739_0, c739_0, e739, hx739_0, hl739_0, hi739_0⟩ := at_L3 HR0.out a2 p739 q739
                               have hw739_0 := hx739_0
                               obtain rfl : ad734 = ad739 := (by injection e739)
                               replace hx739_0 := (HB.out.cell (World.block_lt_of_cell? w _ hx739_0)).trans hx739_0
                               have HR739_0 := Aside0.mk hi739_0
                               have HC739_0 := Aside0.mk hl739_0
                               clear hi739_0 hl739_0
                               replace p739 := eq_true p739
                               replace q739 := eq_true q739
                               have p740 : 0 ≤ (x15_1 : Int) := of_decide_eq_true (by (with_reducible assumption))
                               have q740 : x15_1 < (l0.length : Int) := of_decide_eq_true (by (with_reducible assumption))
                               obtain ⟨ad740, A740_0, c740_0, e740, hx740_0, hl740_0, hi740_0⟩ := at_L3 HR0.out x15_1 p740 q740
                               have hw740_0 := hx740_0
                               obtain rfl : ad734 = ad740 := (by injection e740)
                               replace hx740_0 := (HB.out.cell (World.block_lt_of_cell? w _ hx740_0)).trans hx740_0
                               have HR740_0 := Aside0.mk hi740_0
                               have HC740_0 := Aside0.mk hl740_0
                               clear hi740_0 hl740_0
                               replace p740 := eq_true p740
                               replace q740 := eq_true q740
                               have p741 : 0 ≤ (x8_2 : Int) := of_decide_eq_true (by (with_reducible assumption))
                               have q741 : x8_2 < (l0.length : Int) := of_decide_eq_true (by (with_reducible assumption))
                               obtain ⟨ad741, A741_0, c741_0, e741, hx741_0, hl741_0, hi741_0⟩ := at_L3 HR0.out x8_2 p741 q741
                               have hw741_0 := hx741_0
                               obtain rfl : ad734 = ad741 := (by injection e741)
                               replace hx741_0 := (HB.out.cell (World.block_lt_of_cell? w _ hx741_0)).trans hx741_0
                               have HR741_0 := Aside0.mk hi741_0
                               have HC741_0 := Aside0.mk hl741_0
                               clear hi741_0 hl741_0
                               replace p741 := eq_true p741
                               replace q741 := eq_true q741
                               have p742 : 0 ≤ (x9_4 : Int) := of_decide_eq_true (by (with_reducible assumption))
                               have q742 : x9_4 < (l0.length : Int) := of_decide_eq_true (by (with_reducible assumption))
                               obtain ⟨ad742, A742_0, c742_0, e742, hx742_0, hl742_0, hi742_0⟩ := at_L3 HR0.out x9_4 p742 q742
                               have hw742_0 := hx742_0
                               obtain rfl : ad734 = ad742 := (by injection e742)
                               replace hx742_0 := (HB.out.cell (World.block_lt_of_cell? w _ hx742_0)).trans hx742_0
                               have HR742_0 := Aside0.mk hi742_0
                               have HC742_0 := Aside0.mk hl742_0
                               clear hi742_0 hl742_0
                               replace p742 := eq_true p742
                               replace q742 := eq_true q742
                               refine start_ (n := 22) (S := fun w' => w'.cell? (ad734.add (a2).toNat) = some (.slice A739_0 (rd_L3 l0 a2).length c739_0) ∧ w'.cell? (ad734.add (x15_1).toNat) = some (.slice A740_0 (rd_L3 l0 x15_1).length c740_0) ∧ w'.cell? (ad734.add (x8_2).toNat) = some (.slice A741_0 (rd_L3 l0 x8_2).length c741_0) ∧ w'.cell? (ad734.add (x9_4).toNat) = some (.slice A742_0 (rd_L3 l0 x9_4).length c742_0)) (ds := []) #[false, false, false, false, false, false, false, false, false, false, false, false, false, false, false, false, false, false, false, false, false, false] (by kernel_rfl) rfl rfl ⟨((HB.out.cell (World.block_lt_of_cell? w _ hw739_0)).trans hw739_0), ((HB.out.cell (World.block_lt_of_cell? w _ hw740_0)).trans hw740_0), ((HB.out.cell (World.block_lt_of_cell? w _ hw741_0)).trans hw741_0), ((HB.out.cell (World.block_lt_of_cell? w _ hw742_0)).trans hw742_0)⟩ (fun hHeld => ?_); refine with_tabW spec_shCovers.tab15 spec_shCovers.bits15 (fun HT_ HW_ => ?_)
                               generalize wr.drew = w38 at HB HR739_0 HR740_0 HR741_0 HR742_0 hx739_0 hx740_0 hx741_0 hx742_0 hHeld ⊢
                               refine pure_ (i := 0) (N := some 51) (v := ?_) (a' := ?_) #[true, false, false, false, false, false, false, false, false, false, false, false, false, false, false, false, false, false, false, false, false, false] rfl rfl (any_of HT_.out (by kernel_rfl)) (fun _ _ _ h => h) (Or.inl ⟨by rfl, ?_⟩) ?_ ?_
                               rotate_left
                               ·intro w'
                                go_simp
                                with_reducible rfl
                               rotate_left
                               ·simp only [Act.put, List.setIfInBounds_toArray, List.set_cons_zero, List.set_cons_succ, i64_w, i32_w]
                                rfl
                               refine pure_ (i := 1) (N := some 52) (v := ?_) (a' := ?_) #[true, true, false, false, false, false, false, false, false, false, false, false, false, false, false, false, false, false, false, false, false, false] rfl rfl (any_of HT_.out (by kernel_rfl)) (fun _ _ _ h => h) (Or.inl ⟨by rfl, ?_⟩) ?_ ?_
                               rotate_left
                               ·intro w'
                                go_simp
                                with_reducible rfl
                               rotate_left
                               ·simp only [Act.put, List.setIfInBounds_toArray, List.set_cons_zero, List.set_cons_succ, i64_w, i32_w]
                                rfl
                               refine one_ (i := 2) (N := some 53) #[true, true, true, false, false, false, false, false, false, false, false, false, false, false, false, false, false, false, false, false, false, false] rfl rfl (one_of HT_.out (by kernel_rfl)) (by decide) (fun K hK => ?_)
                               refine goes_ Try.func70 (by kernel_rfl) rfl #[.int .i64 a1, .int .i64 x9_4] (by rfl) rfl rfl (by (try simp only [List.map_toArray, List.map_cons, List.map_nil]); rfl) ?_
                               with_reducible refine (spec_spIn.calls a1 x9_4 true _ A26.out).mono ?_
                               rintro e w' ⟨rfl, ⟨nd, rfl⟩⟩
                               refine ⟨_, rfl, ?_⟩
                               refine hK.out _ _ ⟨((HB.out.cell (World.block_lt_of_cell? w _ hw739_0)).trans hw739_0), ((HB.out.cell (World.block_lt_of_cell? w _ hw740_0)).trans hw740_0), ((HB.out.cell (World.block_lt_of_cell? w _ hw741_0)).trans hw741_0), ((HB.out.cell (World.block_lt_of_cell? w _ hw742_0)).trans hw742_0)⟩ (fun hHeld => ?_)
                               clear hK K
                               refine norm_ (a' := ?_) ?_ ?_
                               rotate_left
                               ·show Act.put _ (some 53) _ = _
                                simp only [Act.put, List.setIfInBounds_toArray, List.set_cons_zero, List.set_cons_succ, i64_w, i32_w]
                                rfl
                               refine pure_ (i := 3) (N := some 54) (v := ?_) (a' := ?_) #[true, true, true, true, false, false, false, false, false, false, false, false, false, false, false, false, false, false, false, false, false, false] rfl rfl (any_of HT_.out (by kernel_rfl)) (fun _ _ _ h => h) (Or.inl ⟨by rfl, ?_⟩) ?_ ?_
                               rotate_left
                               ·intro w'
                                go_simp
                                with_reducible rfl
                               rotate_left
                               ·simp only [Act.put, List.setIfInBounds_toArray, List.set_cons_zero, List.set_cons_succ, i64_w, i32_w]
                                rfl
                               refine pure_ (i := 4) (N := some 55) (v := ?_) (a' := ?_) #[true, true, true, true, true, false, false, false, false, false, false, false, false, false, false, false, false, false, false, false, false, false] rfl rfl (any_of HT_.out (by kernel_rfl)) (fun _ _ _ h => h) (Or.inl ⟨by rfl, ?_⟩) ?_ ?_
                               rotate_left
                               ·intro w'
                                go_simp
                                with_reducible rfl
                               rotate_left
                               ·simp only [Act.put, List.setIfInBounds_toArray, List.set_cons_zero, List.set_cons_succ, i64_w, i32_w]
                                rfl
                               refine pure_ (i := 5) (N := some 56) (v := ?_) (a' := ?_) #[true, true, true, true, true, true, false, false, false, false, false, false, false, false, false, false, false, false, false, false, false, false] rfl rfl (any_of HT_.out (by kernel_rfl)) (fun _ _ _ h => h) (Or.inl ⟨by rfl, ?_⟩) ?_ ?_
                               rotate_left
                               ·intro w'
                                go_simp
                                with_reducible rfl
                               rotate_left
                               ·simp only [Act.put, List.setIfInBounds_toArray, List.set_cons_zero, List.set_cons_succ, i64_w, i32_w]
                                rfl
                               refine pure_ (i := 6) (N := some 57) (v := ?_) (a' := ?_) #[true, true, true, true, true, true, true, false, false, false, false, false, false, false, false, false, false, false, false, false, false, false] rfl rfl (any_of HT_.out (by kernel_rfl)) (fun _ _ _ h => h) (Or.inl ⟨by rfl, ?_⟩) ?_ ?_
                               rotate_left
                               ·intro w'
                                go_simp
                                with_reducible rfl
                               rotate_left
                               ·simp only [Act.put, List.setIfInBounds_toArray, List.set_cons_zero, List.set_cons_succ, i64_w, i32_w]
                                rfl
                               refine pure_ (i := 8) (N := some 59) (v := ?_) (a' := ?_) #[true, true, true, true, true, true, true, false, true, false, false, false, false, false, false, false, false, false, false, false, false, false] rfl rfl (any_of HT_.out (by kernel_rfl)) (fun _ _ _ h => h) (Or.inl ⟨by rfl, ?_⟩) ?_ ?_
                               rotate_left
                               ·intro w'
                                go_simp
                                with_reducible rfl
                               rotate_left
                               ·simp only [Act.put, List.setIfInBounds_toArray, List.set_cons_zero, List.set_cons_succ, i64_w, i32_w]
                                rfl
                               refine pure_ (i := 9) (N := some 60) (v := ?_) (a' := ?_) #[true, true, true, true, true, true, true, false, true, true, false, false, false, false, false, false, false, false, false, false, false, false] rfl rfl (any_of HT_.out (by kernel_rfl)) (fun _ _ _ h => h) (Or.inl ⟨by rfl, ?_⟩) ?_ ?_
                               rotate_left
                               ·intro w'
                                go_simp
                                with_reducible rfl
                               rotate_left
                               ·simp only [Act.put, List.setIfInBounds_toArray, List.set_cons_zero, List.set_cons_succ, i64_w, i32_w]
                                rfl
                               refine pure_ (i := 10) (N := some 61) (v := ?_) (a' := ?_) #[true, true, true, true, true, true, true, false, true, true, true, false, false, false, false, false, false, false, false, false, false, false] rfl rfl (any_of HT_.out (by kernel_rfl)) (fun _ _ _ h => h) (Or.inl ⟨by rfl, ?_⟩) ?_ ?_
                               rotate_left
                               ·intro w'
                                go_simp
                                with_reducible rfl
                               rotate_left
                               ·simp only [Act.put, List.setIfInBounds_toArray, List.set_cons_zero, List.set_cons_succ, i64_w, i32_w]
                                rfl
                               refine pure_ (i := 12) (N := some 63) (v := ?_) (a' := ?_) #[true, true, true, true, true, true, true, false, true, true, true, false, true, false, false, false, false, false, false, false, false, false] rfl rfl (any_of HT_.out (by kernel_rfl)) (fun _ _ _ h => h) (Or.inl ⟨by rfl, ?_⟩) ?_ ?_
                               rotate_left
                               ·intro w'
                                go_simp
                                with_reducible rfl
                               rotate_left
                               ·simp only [Act.put, List.setIfInBounds_toArray, List.set_cons_zero, List.set_cons_succ, i64_w, i32_w]
                                rfl
                               refine pure_ (i := 13) (N := some 64) (v := ?_) (a' := ?_) #[true, true, true, true, true, true, true, false, true, true, true, false, true, true, false, false, false, false, false, false, false, false] rfl rfl (any_of HT_.out (by kernel_rfl)) (fun _ _ _ h => h) (Or.inl ⟨by rfl, ?_⟩) ?_ ?_
                               rotate_left
                               ·intro w'
                                go_simp
                                with_reducible rfl
                               rotate_left
                               ·simp only [Act.put, List.setIfInBounds_toArray, List.set_cons_zero, List.set_cons_succ, i64_w, i32_w]
                                rfl
                               refine pure_ (i := 14) (N := some 65) (v := ?_) (a' := ?_) #[true, true, true, true, true, true, true, false, true, true, true, false, true, true, true, false, false, false, false, false, false, false] rfl rfl (any_of HT_.out (by kernel_rfl)) (fun _ _ _ h => h) (Or.inl ⟨by rfl, ?_⟩) ?_ ?_
                               rotate_left
                               ·intro w'
                                go_simp
                                with_reducible rfl
                               rotate_left
                               ·simp only [Act.put, List.setIfInBounds_toArray, List.set_cons_zero, List.set_cons_succ, i64_w, i32_w]
                                rfl
                               refine pure_ (i := 16) (N := some 67) (v := ?_) (a' := ?_) #[true, true, true, true, true, true, true, false, true, true, true, false, true, true, true, false, true, false, false, false, false, false] rfl rfl (any_of HT_.out (by kernel_rfl)) (fun _ _ _ h => h) (Or.inl ⟨by rfl, ?_⟩) ?_ ?_
                               rotate_left
                               ·intro w'
                                go_simp
                                with_reducible rfl
                               rotate_left
                               ·simp only [Act.put, List.setIfInBounds_toArray, List.set_cons_zero, List.set_cons_succ, i64_w, i32_w]
                                rfl
                               refine pure_ (i := 17) (N := some 68) (v := ?_) (a' := ?_) #[true, true, true, true, true, true, true, false, true, true, true, false, true, true, true, false, true, true, false, false, false, false] rfl rfl (any_of HT_.out (by kernel_rfl)) (fun _ _ _ h => h) (Or.inl ⟨by rfl, ?_⟩) ?_ ?_
                               rotate_left
                               ·intro w'
                                go_simp
                                with_reducible rfl
                               rotate_left
                               ·simp only [Act.put, List.setIfInBounds_toArray, List.set_cons_zero, List.set_cons_succ, i64_w, i32_w]
                                rfl
                               refine pure_ (i := 18) (N := some 69) (v := ?_) (a' := ?_) #[true, true, true, true, true, true, true, false, true, true, true, false, true, true, true, false, true, true, true, false, false, false] rfl rfl (any_of HT_.out (by kernel_rfl)) (fun _ _ _ h => h) (Or.inl ⟨by rfl, ?_⟩) ?_ ?_
                               rotate_left
                               ·intro w'
                                go_simp
                                with_reducible rfl
                               rotate_left
                               ·simp only [Act.put, List.setIfInBounds_toArray, List.set_cons_zero, List.set_cons_succ, i64_w, i32_w]
                                rfl
                               refine take_ (i := 7) (N := some 58) (v := ?_) (a' := ?_) #[true, true, true, true, true, true, true, true, true, true, true, false, true, true, true, false, true, true, true, false, false, false] rfl rfl (take_ofW HT_.out HW_.out (by kernel_rfl)) (fun _ _ _ h => h) (Or.inl ⟨by rfl, ?_⟩) hHeld ?_ ?_
                               rotate_left
                               ·rintro w' ⟨s0, s1, s2, s3⟩
                                go_simp
                                with_reducible rfl
                               rotate_left
                               ·simp only [Act.put, List.setIfInBounds_toArray, List.set_cons_zero, List.set_cons_succ, i64_w, i32_w]
                                rfl
                               refine take_ (i := 11) (N := some 62) (v := ?_) (a' := ?_) #[true, true, true, true, true, true, true, true, true, true, true, true, true, true, true, false, true, true, true, false, false, false] rfl rfl (take_ofW HT_.out HW_.out (by kernel_rfl)) (fun _ _ _ h => h) (Or.inl ⟨by rfl, ?_⟩) hHeld ?_ ?_
                               rotate_left
                               ·rintro w' ⟨s0, s1, s2, s3⟩
                                go_simp
                                with_reducible rfl
                               rotate_left
                               ·simp only [Act.put, List.setIfInBounds_toArray, List.set_cons_zero, List.set_cons_succ, i64_w, i32_w]
                                rfl
                               refine take_ (i := 15) (N := some 66) (v := ?_) (a' := ?_) #[true, true, true, true, true, true, true, true, true, true, true, true, true, true, true, true, true, true, true, false, false, false] rfl rfl (take_ofW HT_.out HW_.out (by kernel_rfl)) (fun _ _ _ h => h) (Or.inl ⟨by rfl, ?_⟩) hHeld ?_ ?_
                               rotate_left
                               ·rintro w' ⟨s0, s1, s2, s3⟩
                                go_simp
                                with_reducible rfl
                               rotate_left
                               ·simp only [Act.put, List.setIfInBounds_toArray, List.set_cons_zero, List.set_cons_succ, i64_w, i32_w]
                                rfl
                               refine take_ (i := 19) (N := some 70) (v := ?_) (a' := ?_) #[true, true, true, true, true, true, true, true, true, true, true, true, true, true, true, true, true, true, true, true, false, false] rfl rfl (take_ofW HT_.out HW_.out (by kernel_rfl)) (fun _ _ _ h => h) (Or.inl ⟨by rfl, ?_⟩) hHeld ?_ ?_
                               rotate_left
                               ·rintro w' ⟨s0, s1, s2, s3⟩
                                go_simp
                                with_reducible rfl
                               rotate_left
                               ·simp only [Act.put, List.setIfInBounds_toArray, List.set_cons_zero, List.set_cons_succ, i64_w, i32_w]
                                rfl
                               refine one_ (i := 20) (N := some 71) #[true, true, true, true, true, true, true, true, true, true, true, true, true, true, true, true, true, true, true, true, true, false] rfl rfl (one_of HT_.out (by kernel_rfl)) (by decide) (fun K hK => ?_)
                               refine goes_ Try.func120 (by kernel_rfl) rfl #[.slice A739_0 (rd_L3 l0 a2).length c739_0, .slice A740_0 (rd_L3 l0 x15_1).length c740_0, .slice A741_0 (rd_L3 l0 x8_2).length c741_0, .slice A742_0 (rd_L3 l0 x9_4).length c742_0] (by rfl) rfl rfl (by (try simp only [List.map_toArray, List.map_cons, List.map_nil]); rfl) ?_
                               with_reducible refine (spec_shWithin.calls _ _ (rd_L3 l0 a2) _ _ (rd_L3 l0 x15_1) _ _ (rd_L3 l0 x8_2) _ _ (rd_L3 l0 x9_4) true _ ?side1 ?side2 ?side3 ?side4 ?side5 ?side6 ?side7 ?side8 A36.out).mono ?_
                               (case side1 => repeat ((exact (Kd.C_below HR739_0.out (by repeat ((with_reducible first | exact HB.out | apply pw_below_drewN)))))))
                               (case side2 => exact HC739_0.out)
                               (case side3 => repeat ((exact (Kd.C_below HR740_0.out (by repeat ((with_reducible first | exact HB.out | apply pw_below_drewN)))))))
                               (case side4 => exact HC740_0.out)
                               (case side5 => repeat ((exact (Kd.C_below HR741_0.out (by repeat ((with_reducible first | exact HB.out | apply pw_below_drewN)))))))
                               (case side6 => exact HC741_0.out)
                               (case side7 => repeat ((exact (Kd.C_below HR742_0.out (by repeat ((with_reducible first | exact HB.out | apply pw_below_drewN)))))))
                               (case side8 => exact HC742_0.out)
                               rintro e w' ⟨rfl, ⟨nd, rfl⟩⟩
                               refine ⟨_, rfl, ?_⟩
                               refine hK.out _ _ ⟨((HB.out.cell (World.block_lt_of_cell? w _ hw739_0)).trans hw739_0), ((HB.out.cell (World.block_lt_of_cell? w _ hw740_0)).trans hw740_0), ((HB.out.cell (World.block_lt_of_cell? w _ hw741_0)).trans hw741_0), ((HB.out.cell (World.block_lt_of_cell? w _ hw742_0)).trans hw742_0)⟩ (fun hHeld => ?_)
                               clear hK K
                               refine norm_ (a' := ?_) ?_ ?_
                               rotate_left
                               ·show Act.put _ (some 71) _ = _
                                simp only [Act.put, List.setIfInBounds_toArray, List.set_cons_zero, List.set_cons_succ, i64_w, i32_w]
                                rfl
                               refine pure_ (i := 21) (N := some 72) (v := ?_) (a' := ?_) #[true, true, true, true, true, true, true, true, true, true, true, true, true, true, true, true, true, true, true, true, true, true] rfl rfl (any_of HT_.out (by kernel_rfl)) (fun _ _ _ h => h) (Or.inl ⟨by rfl, ?_⟩) ?_ ?_
                               rotate_left
                               ·intro w'
                                go_simp
                                with_reducible rfl
                               rotate_left
                               ·simp only [Act.put, List.setIfInBounds_toArray, List.set_cons_zero, List.set_cons_succ, i64_w, i32_w]
                                rfl
                               refine done_ (done_of HT_.out (by kernel_rfl)) ?_
                               try go_wp2
                               go_ret
                               exact ⟨by rfl, by repeat ((with_reducible first | exact HB.out | apply pw_below_drewN))⟩
                              ·replace c37 := Bool.eq_false_iff.mpr c37
                               subst c37
                               have H1 : (spec_shCovers.l2 k4 l0 a1 a2 x15_1 x8_2 (wrap64 (x9_4 + 1)) (l0.length : Int) x15_1) = some r := by rw [if_neg (show ¬ (false = true) by decide)] at H; exact H
                               clear H
                               have H := H1
                               clear H1
                               have H' := Aside0.mk H
                               clear H
                               try go_wp2
                               have n0_ := Aside0.mk (below_drew1 HB.out)
                               clear HB
                               have HB := n0_
                               clear n0_
                               have p739 : 0 ≤ (a2 : Int) := of_decide_eq_true (by (with_reducible assumption))
                               have q739 : a2 < (l0.length : Int) := of_decide_eq_true (by (with_reducible assumption))
                               obtain ⟨ad739, A739_0, c739_0, e739, hx739_0, hl739_0, hi739_0⟩ := at_L3 HR0.out a2 p739 q739
                               have hw739_0 := hx739_0
                               obtain rfl : ad734 = ad739 := (by injection e739)
                               replace hx739_0 := (HB.out.cell (World.block_lt_of_cell? w _ hx739_0)).trans hx739_0
                               have HR739_0 := Aside0.mk hi739_0
                               have HC739_0 := Aside0.mk hl739_0
                               clear hi739_0 hl739_0
                               replace p739 := eq_true p739
                               replace q739 := eq_true q739
                               have p740 : 0 ≤ (x15_1 : Int) := of_decide_eq_true (by (with_reducible assumption))
                               have q740 : x15_1 < (l0.length : Int) := of_decide_eq_true (by (with_reducible assumption))
                               obtain ⟨ad740, A740_0, c740_0, e740, hx740_0, hl740_0, hi740_0⟩ := at_L3 HR0.out x15_1 p740 q740
                               have hw740_0 := hx740_0
                               obtain rfl : ad734 = ad740 := (by injection e740)
                               replace hx740_0 := (HB.out.cell (World.block_lt_of_cell? w _ hx740_0)).trans hx740_0
                               have HR740_0 := Aside0.mk hi740_0
                               have HC740_0 := Aside0.mk hl740_0
                               clear hi740_0 hl740_0
                               replace p740 := eq_true p740
                               replace q740 := eq_true q740
                               have p741 : 0 ≤ (x8_2 : Int) := of_decide_eq_true (by (with_reducible assumption))
                               have q741 : x8_2 < (l0.length : Int) := of_decide_eq_true (by (with_reducible assumption))
                               obtain ⟨ad741, A741_0, c741_0, e741, hx741_0, hl741_0, hi741_0⟩ := at_L3 HR0.out x8_2 p741 q741
                               have hw741_0 := hx741_0
                               obtain rfl : ad734 = ad741 := (by injection e741)
                               replace hx741_0 := (HB.out.cell (World.block_lt_of_cell? w _ hx741_0)).trans hx741_0
                               have HR741_0 := Aside0.mk hi741_0
                               have HC741_0 := Aside0.mk hl741_0
                               clear hi741_0 hl741_0
                               replace p741 := eq_true p741
                               replace q741 := eq_true q741
                               have p742 : 0 ≤ (x9_4 : Int) := of_decide_eq_true (by (with_reducible assumption))
                               have q742 : x9_4 < (l0.length : Int) := of_decide_eq_true (by (with_reducible assumption))
                               obtain ⟨ad742, A742_0, c742_0, e742, hx742_0, hl742_0, hi742_0⟩ := at_L3 HR0.out x9_4 p742 q742
                               have hw742_0 := hx742_0
                               obtain rfl : ad734 = ad742 := (by injection e742)
                               replace hx742_0 := (HB.out.cell (World.block_lt_of_cell? w _ hx742_0)).trans hx742_0
                               have HR742_0 := Aside0.mk hi742_0
                               have HC742_0 := Aside0.mk hl742_0
                               clear hi742_0 hl742_0
                               replace p742 := eq_true p742
                               replace q742 := eq_true q742
                               refine start_ (n := 22) (S := fun w' => w'.cell? (ad734.add (a2).toNat) = some (.slice A739_0 (rd_L3 l0 a2).length c739_0) ∧ w'.cell? (ad734.add (x15_1).toNat) = some (.slice A740_0 (rd_L3 l0 x15_1).length c740_0) ∧ w'.cell? (ad734.add (x8_2).toNat) = some (.slice A741_0 (rd_L3 l0 x8_2).length c741_0) ∧ w'.cell? (ad734.add (x9_4).toNat) = some (.slice A742_0 (rd_L3 l0 x9_4).length c742_0)) (ds := []) #[false, false, false, false, false, false, false, false, false, false, false, false, false, false, false, false, false, false, false, false, false, false] (by kernel_rfl) rfl rfl ⟨((HB.out.cell (World.block_lt_of_cell? w _ hw739_0)).trans hw739_0), ((HB.out.cell (World.block_lt_of_cell? w _ hw740_0)).trans hw740_0), ((HB.out.cell (World.block_lt_of_cell? w _ hw741_0)).trans hw741_0), ((HB.out.cell (World.block_lt_of_cell? w _ hw742_0)).trans hw742_0)⟩ (fun hHeld => ?_); refine with_tabW spec_shCovers.tab15 spec_shCovers.bits15 (fun HT_ HW_ => ?_)
                               generalize wr.drew = w39 at HB HR739_0 HR740_0 HR741_0 HR742_0 hx739_0 hx740_0 hx741_0 hx742_0 hHeld ⊢
                               refine pure_ (i := 0) (N := some 51) (v := ?_) (a' := ?_) #[true, false, false, false, false, false, false, false, false, false, false, false, false, false, false, false, false, false, false, false, false, false] rfl rfl (any_of HT_.out (by kernel_rfl)) (fun _ _ _ h => h) (Or.inl ⟨by rfl, ?_⟩) ?_ ?_
                               rotate_left
                               ·intro w'
                                go_simp
                                with_reducible rfl
                               rotate_left
                               ·simp only [Act.put, List.setIfInBounds_toArray, List.set_cons_zero, List.set_cons_succ, i64_w, i32_w]
                                rfl
                               refine pure_ (i := 1) (N := some 52) (v := ?_) (a' := ?_) #[true, true, false, false, false, false, false, false, false, false, false, false, false, false, false, false, false, false, false, false, false, false] rfl rfl (any_of HT_.out (by kernel_rfl)) (fun _ _ _ h => h) (Or.inl ⟨by rfl, ?_⟩) ?_ ?_
                               rotate_left
                               ·intro w'
                                go_simp
                                with_reducible rfl
                               rotate_left
                               ·simp only [Act.put, List.setIfInBounds_toArray, List.set_cons_zero, List.set_cons_succ, i64_w, i32_w]
                                rfl
                               refine one_ (i := 2) (N := some 53) #[true, true, true, false, false, false, false, false, false, false, false, false, false, false, false, false, false, false, false, false, false, false] rfl rfl (one_of HT_.out (by kernel_rfl)) (by decide) (fun K hK => ?_)
                               refine goes_ Try.func70 (by kernel_rfl) rfl #[.int .i64 a1, .int .i64 x9_4] (by rfl) rfl rfl (by (try simp only [List.map_toArray, List.map_cons, List.map_nil]); rfl) ?_
                               with_reducible refine (spec_spIn.calls a1 x9_4 true _ A26.out).mono ?_
                               rintro e w' ⟨rfl, ⟨nd, rfl⟩⟩
                               refine ⟨_, rfl, ?_⟩
                               refine hK.out _ _ ⟨((HB.out.cell (World.block_lt_of_cell? w _ hw739_0)).trans hw739_0), ((HB.out.cell (World.block_lt_of_cell? w _ hw740_0)).trans hw740_0), ((HB.out.cell (World.block_lt_of_cell? w _ hw741_0)).trans hw741_0), ((HB.out.cell (World.block_lt_of_cell? w _ hw742_0)).trans hw742_0)⟩ (fun hHeld => ?_)
                               clear hK K
                               refine norm_ (a' := ?_) ?_ ?_
                               rotate_left
                               ·show Act.put _ (some 53) _ = _
                                simp only [Act.put, List.setIfInBounds_toArray, List.set_cons_zero, List.set_cons_succ, i64_w, i32_w]
                                rfl
                               refine pure_ (i := 3) (N := some 54) (v := ?_) (a' := ?_) #[true, true, true, true, false, false, false, false, false, false, false, false, false, false, false, false, false, false, false, false, false, false] rfl rfl (any_of HT_.out (by kernel_rfl)) (fun _ _ _ h => h) (Or.inl ⟨by rfl, ?_⟩) ?_ ?_
                               rotate_left
                               ·intro w'
                                go_simp
                                with_reducible rfl
                               rotate_left
                               ·simp only [Act.put, List.setIfInBounds_toArray, List.set_cons_zero, List.set_cons_succ, i64_w, i32_w]
                                rfl
                               refine pure_ (i := 4) (N := some 55) (v := ?_) (a' := ?_) #[true, true, true, true, true, false, false, false, false, false, false, false, false, false, false, false, false, false, false, false, false, false] rfl rfl (any_of HT_.out (by kernel_rfl)) (fun _ _ _ h => h) (Or.inl ⟨by rfl, ?_⟩) ?_ ?_
                               rotate_left
                               ·intro w'
                                go_simp
                                with_reducible rfl
                               rotate_left
                               ·simp only [Act.put, List.setIfInBounds_toArray, List.set_cons_zero, List.set_cons_succ, i64_w, i32_w]
                                rfl
                               refine pure_ (i := 5) (N := some 56) (v := ?_) (a' := ?_) #[true, true, true, true, true, true, false, false, false, false, false, false, false, false, false, false, false, false, false, false, false, false] rfl rfl (any_of HT_.out (by kernel_rfl)) (fun _ _ _ h => h) (Or.inl ⟨by rfl, ?_⟩) ?_ ?_
                               rotate_left
                               ·intro w'
                                go_simp
                                with_reducible rfl
                               rotate_left
                               ·simp only [Act.put, List.setIfInBounds_toArray, List.set_cons_zero, List.set_cons_succ, i64_w, i32_w]
                                rfl
                               refine pure_ (i := 6) (N := some 57) (v := ?_) (a' := ?_) #[true, true, true, true, true, true, true, false, false, false, false, false, false, false, false, false, false, false, false, false, false, false] rfl rfl (any_of HT_.out (by kernel_rfl)) (fun _ _ _ h => h) (Or.inl ⟨by rfl, ?_⟩) ?_ ?_
                               rotate_left
                               ·intro w'
                                go_simp
                                with_reducible rfl
                               rotate_left
                               ·simp only [Act.put, List.setIfInBounds_toArray, List.set_cons_zero, List.set_cons_succ, i64_w, i32_w]
                                rfl
                               refine pure_ (i := 8) (N := some 59) (v := ?_) (a' := ?_) #[true, true, true, true, true, true, true, false, true, false, false, false, false, false, false, false, false, false, false, false, false, false] rfl rfl (any_of HT_.out (by kernel_rfl)) (fun _ _ _ h => h) (Or.inl ⟨by rfl, ?_⟩) ?_ ?_
                               rotate_left
                               ·intro w'
                                go_simp
                                with_reducible rfl
                               rotate_left
                               ·simp only [Act.put, List.setIfInBounds_toArray, List.set_cons_zero, List.set_cons_succ, i64_w, i32_w]
                                rfl
                               refine pure_ (i := 9) (N := some 60) (v := ?_) (a' := ?_) #[true, true, true, true, true, true, true, false, true, true, false, false, false, false, false, false, false, false, false, false, false, false] rfl rfl (any_of HT_.out (by kernel_rfl)) (fun _ _ _ h => h) (Or.inl ⟨by rfl, ?_⟩) ?_ ?_
                               rotate_left
                               ·intro w'
                                go_simp
                                with_reducible rfl
                               rotate_left
                               ·simp only [Act.put, List.setIfInBounds_toArray, List.set_cons_zero, List.set_cons_succ, i64_w, i32_w]
                                rfl
                               refine pure_ (i := 10) (N := some 61) (v := ?_) (a' := ?_) #[true, true, true, true, true, true, true, false, true, true, true, false, false, false, false, false, false, false, false, false, false, false] rfl rfl (any_of HT_.out (by kernel_rfl)) (fun _ _ _ h => h) (Or.inl ⟨by rfl, ?_⟩) ?_ ?_
                               rotate_left
                               ·intro w'
                                go_simp
                                with_reducible rfl
                               rotate_left
                               ·simp only [Act.put, List.setIfInBounds_toArray, List.set_cons_zero, List.set_cons_succ, i64_w, i32_w]
                                rfl
                               refine pure_ (i := 12) (N := some 63) (v := ?_) (a' := ?_) #[true, true, true, true, true, true, true, false, true, true, true, false, true, false, false, false, false, false, false, false, false, false] rfl rfl (any_of HT_.out (by kernel_rfl)) (fun _ _ _ h => h) (Or.inl ⟨by rfl, ?_⟩) ?_ ?_
                               rotate_left
                               ·intro w'
                                go_simp
                                with_reducible rfl
                               rotate_left
                               ·simp only [Act.put, List.setIfInBounds_toArray, List.set_cons_zero, List.set_cons_succ, i64_w, i32_w]
                                rfl
                               refine pure_ (i := 13) (N := some 64) (v := ?_) (a' := ?_) #[true, true, true, true, true, true, true, false, true, true, true, false, true, true, false, false, false, false, false, false, false, false] rfl rfl (any_of HT_.out (by kernel_rfl)) (fun _ _ _ h => h) (Or.inl ⟨by rfl, ?_⟩) ?_ ?_
                               rotate_left
                               ·intro w'
                                go_simp
                                with_reducible rfl
                               rotate_left
                               ·simp only [Act.put, List.setIfInBounds_toArray, List.set_cons_zero, List.set_cons_succ, i64_w, i32_w]
                                rfl
                               refine pure_ (i := 14) (N := some 65) (v := ?_) (a' := ?_) #[true, true, true, true, true, true, true, false, true, true, true, false, true, true, true, false, false, false, false, false, false, false] rfl rfl (any_of HT_.out (by kernel_rfl)) (fun _ _ _ h => h) (Or.inl ⟨by rfl, ?_⟩) ?_ ?_
                               rotate_left
                               ·intro w'
                                go_simp
                                with_reducible rfl
                               rotate_left
                               ·simp only [Act.put, List.setIfInBounds_toArray, List.set_cons_zero, List.set_cons_succ, i64_w, i32_w]
                                rfl
                               refine pure_ (i := 16) (N := some 67) (v := ?_) (a' := ?_) #[true, true, true, true, true, true, true, false, true, true, true, false, true, true, true, false, true, false, false, false, false, false] rfl rfl (any_of HT_.out (by kernel_rfl)) (fun _ _ _ h => h) (Or.inl ⟨by rfl, ?_⟩) ?_ ?_
                               rotate_left
                               ·intro w'
                                go_simp
                                with_reducible rfl
                               rotate_left
                               ·simp only [Act.put, List.setIfInBounds_toArray, List.set_cons_zero, List.set_cons_succ, i64_w, i32_w]
                                rfl
                               refine pure_ (i := 17) (N := some 68) (v := ?_) (a' := ?_) #[true, true, true, true, true, true, true, false, true, true, true, false, true, true, true, false, true, true, false, false, false, false] rfl rfl (any_of HT_.out (by kernel_rfl)) (fun _ _ _ h => h) (Or.inl ⟨by rfl, ?_⟩) ?_ ?_
                               rotate_left
                               ·intro w'
                                go_simp
                                with_reducible rfl
                               rotate_left
                               ·simp only [Act.put, List.setIfInBounds_toArray, List.set_cons_zero, List.set_cons_succ, i64_w, i32_w]
                                rfl
                               refine pure_ (i := 18) (N := some 69) (v := ?_) (a' := ?_) #[true, true, true, true, true, true, true, false, true, true, true, false, true, true, true, false, true, true, true, false, false, false] rfl rfl (any_of HT_.out (by kernel_rfl)) (fun _ _ _ h => h) (Or.inl ⟨by rfl, ?_⟩) ?_ ?_
                               rotate_left
                               ·intro w'
                                go_simp
                                with_reducible rfl
                               rotate_left
                               ·simp only [Act.put, List.setIfInBounds_toArray, List.set_cons_zero, List.set_cons_succ, i64_w, i32_w]
                                rfl
                               refine take_ (i := 7) (N := some 58) (v := ?_) (a' := ?_) #[true, true, true, true, true, true, true, true, true, true, true, false, true, true, true, false, true, true, true, false, false, false] rfl rfl (take_ofW HT_.out HW_.out (by kernel_rfl)) (fun _ _ _ h => h) (Or.inl ⟨by rfl, ?_⟩) hHeld ?_ ?_
                               rotate_left
                               ·rintro w' ⟨s0, s1, s2, s3⟩
                                go_simp
                                with_reducible rfl
                               rotate_left
                               ·simp only [Act.put, List.setIfInBounds_toArray, List.set_cons_zero, List.set_cons_succ, i64_w, i32_w]
                                rfl
                               refine take_ (i := 11) (N := some 62) (v := ?_) (a' := ?_) #[true, true, true, true, true, true, true, true, true, true, true, true, true, true, true, false, true, true, true, false, false, false] rfl rfl (take_ofW HT_.out HW_.out (by kernel_rfl)) (fun _ _ _ h => h) (Or.inl ⟨by rfl, ?_⟩) hHeld ?_ ?_
                               rotate_left
                               ·rintro w' ⟨s0, s1, s2, s3⟩
                                go_simp
                                with_reducible rfl
                               rotate_left
                               ·simp only [Act.put, List.setIfInBounds_toArray, List.set_cons_zero, List.set_cons_succ, i64_w, i32_w]
                                rfl
                               refine take_ (i := 15) (N := some 66) (v := ?_) (a' := ?_) #[true, true, true, true, true, true, true, true, true, true, true, true, true, true, true, true, true, true, true, false, false, false] rfl rfl (take_ofW HT_.out HW_.out (by kernel_rfl)) (fun _ _ _ h => h) (Or.inl ⟨by rfl, ?_⟩) hHeld ?_ ?_
                               rotate_left
                               ·rintro w' ⟨s0, s1, s2, s3⟩
                                go_simp
                                with_reducible rfl
                               rotate_left
                               ·simp only [Act.put, List.setIfInBounds_toArray, List.set_cons_zero, List.set_cons_succ, i64_w, i32_w]
                                rfl
                               refine take_ (i := 19) (N := some 70) (v := ?_) (a' := ?_) #[true, true, true, true, true, true, true, true, true, true, true, true, true, true, true, true, true, true, true, true, false, false] rfl rfl (take_ofW HT_.out HW_.out (by kernel_rfl)) (fun _ _ _ h => h) (Or.inl ⟨by rfl, ?_⟩) hHeld ?_ ?_
                               rotate_left
                               ·rintro w' ⟨s0, s1, s2, s3⟩
                                go_simp
                                with_reducible rfl
                               rotate_left
                               ·simp only [Act.put, List.setIfInBounds_toArray, List.set_cons_zero, List.set_cons_succ, i64_w, i32_w]
                                rfl
                               refine one_ (i := 20) (N := some 71) #[true, true, true, true, true, true, true, true, true, true, true, true, true, true, true, true, true, true, true, true, true, false] rfl rfl (one_of HT_.out (by kernel_rfl)) (by decide) (fun K hK => ?_)
                               refine goes_ Try.func120 (by kernel_rfl) rfl #[.slice A739_0 (rd_L3 l0 a2).length c739_0, .slice A740_0 (rd_L3 l0 x15_1).length c740_0, .slice A741_0 (rd_L3 l0 x8_2).length c741_0, .slice A742_0 (rd_L3 l0 x9_4).length c742_0] (by rfl) rfl rfl (by (try simp only [List.map_toArray, List.map_cons, List.map_nil]); rfl) ?_
                               with_reducible refine (spec_shWithin.calls _ _ (rd_L3 l0 a2) _ _ (rd_L3 l0 x15_1) _ _ (rd_L3 l0 x8_2) _ _ (rd_L3 l0 x9_4) false _ ?side1 ?side2 ?side3 ?side4 ?side5 ?side6 ?side7 ?side8 A36.out).mono ?_
                               (case side1 => repeat ((exact (Kd.C_below HR739_0.out (by repeat ((with_reducible first | exact HB.out | apply pw_below_drewN)))))))
                               (case side2 => exact HC739_0.out)
                               (case side3 => repeat ((exact (Kd.C_below HR740_0.out (by repeat ((with_reducible first | exact HB.out | apply pw_below_drewN)))))))
                               (case side4 => exact HC740_0.out)
                               (case side5 => repeat ((exact (Kd.C_below HR741_0.out (by repeat ((with_reducible first | exact HB.out | apply pw_below_drewN)))))))
                               (case side6 => exact HC741_0.out)
                               (case side7 => repeat ((exact (Kd.C_below HR742_0.out (by repeat ((with_reducible first | exact HB.out | apply pw_below_drewN)))))))
                               (case side8 => exact HC742_0.out)
                               rintro e w' ⟨rfl, ⟨nd, rfl⟩⟩
                               refine ⟨_, rfl, ?_⟩
                               refine hK.out _ _ ⟨((HB.out.cell (World.block_lt_of_cell? w _ hw739_0)).trans hw739_0), ((HB.out.cell (World.block_lt_of_cell? w _ hw740_0)).trans hw740_0), ((HB.out.cell (World.block_lt_of_cell? w _ hw741_0)).trans hw741_0), ((HB.out.cell (World.block_lt_of_cell? w _ hw742_0)).trans hw742_0)⟩ (fun hHeld => ?_)
                               clear hK K
                               refine norm_ (a' := ?_) ?_ ?_
                               rotate_left
                               ·show Act.put _ (some 71) _ = _
                                simp only [Act.put, List.setIfInBounds_toArray, List.set_cons_zero, List.set_cons_succ, i64_w, i32_w]
                                rfl
                               refine pure_ (i := 21) (N := some 72) (v := ?_) (a' := ?_) #[true, true, true, true, true, true, true, true, true, true, true, true, true, true, true, true, true, true, true, true, true, true] rfl rfl (any_of HT_.out (by kernel_rfl)) (fun _ _ _ h => h) (Or.inl ⟨by rfl, ?_⟩) ?_ ?_
                               rotate_left
                               ·intro w'
                                go_simp
                                with_reducible rfl
                               rotate_left
                               ·simp only [Act.put, List.setIfInBounds_toArray, List.set_cons_zero, List.set_cons_succ, i64_w, i32_w]
                                rfl
                               refine done_ (done_of HT_.out (by kernel_rfl)) ?_
                               try go_wp2
                               go_roundg k4
                               case measure => have := HK1.out; have := HK2.out; have := HJ7.out; have := HK4.out; omega
                               case rel => exact ⟨(wrap64 (x9_4 + 1)), (by rfl), H', ⟨by have := HK1.out; have := HK2.out; have := HJ7.out; have := HK4.out; omega⟩, ⟨by repeat ((with_reducible first | exact HB.out | apply pw_below_drewN))⟩⟩
                             ·rw [if_neg c35] at H
                              exact absurd H (by simp)
                            ·rw [if_neg c34] at H
                             exact absurd H (by simp)
                           ·rw [if_neg c33] at H
                            exact absurd H (by simp)
                          ·rw [if_neg c32] at H
                           exact absurd H (by simp)
                         ·rw [if_neg c31] at H
                          exact absurd H (by simp)
                        ·rw [if_neg c30] at H
                         exact absurd H (by simp)
                       ·rw [if_neg c29] at H
                        exact absurd H (by simp)
                      ·rw [if_neg c28] at H
                       exact absurd H (by simp)
                     ·replace c27 := Bool.eq_false_iff.mpr c27
                      subst c27
                      have H1 : (spec_shCovers.l2 k4 l0 a1 a2 x15_1 x8_2 (wrap64 (x9_4 + 1)) (l0.length : Int) x15_1) = some r := by rw [if_neg (show ¬ (false = true) by decide)] at H; exact H
                      clear H
                      have H := H1
                      clear H1
                      have H' := Aside0.mk H
                      clear H
                      try go_wp2
                      have n0_ := Aside0.mk (below_drew1 HB.out)
                      clear HB
                      have HB := n0_
                      clear n0_
                      refine start_ (n := 22) (S := fun w' => True) (ds := []) #[false, false, false, false, false, false, false, false, false, false, false, false, false, false, false, false, false, false, false, false, false, false] (by kernel_rfl) rfl rfl trivial (fun hHeld => ?_); refine with_tabW spec_shCovers.tab15 spec_shCovers.bits15 (fun HT_ HW_ => ?_)
                      generalize wr.drew = w40 at HB hHeld ⊢
                      refine pure_ (i := 0) (N := some 51) (v := ?_) (a' := ?_) #[true, false, false, false, false, false, false, false, false, false, false, false, false, false, false, false, false, false, false, false, false, false] rfl rfl (any_of HT_.out (by kernel_rfl)) (fun _ _ _ h => h) (Or.inl ⟨by rfl, ?_⟩) ?_ ?_
                      rotate_left
                      ·intro w'
                       go_simp
                       with_reducible rfl
                      rotate_left
                      ·simp only [Act.put, List.setIfInBounds_toArray, List.set_cons_zero, List.set_cons_succ, i64_w, i32_w]
                       rfl
                      refine pure_ (i := 1) (N := some 52) (v := ?_) (a' := ?_) #[true, true, false, false, false, false, false, false, false, false, false, false, false, false, false, false, false, false, false, false, false, false] rfl rfl (any_of HT_.out (by kernel_rfl)) (fun _ _ _ h => h) (Or.inl ⟨by rfl, ?_⟩) ?_ ?_
                      rotate_left
                      ·intro w'
                       go_simp
                       with_reducible rfl
                      rotate_left
                      ·simp only [Act.put, List.setIfInBounds_toArray, List.set_cons_zero, List.set_cons_succ, i64_w, i32_w]
                       rfl
                      refine one_ (i := 2) (N := some 53) #[true, true, true, false, false, false, false, false, false, false, false, false, false, false, false, false, false, false, false, false, false, false] rfl rfl (one_of HT_.out (by kernel_rfl)) (by decide) (fun K hK => ?_)
                      refine goes_ Try.func70 (by kernel_rfl) rfl #[.int .i64 a1, .int .i64 x9_4] (by rfl) rfl rfl (by (try simp only [List.map_toArray, List.map_cons, List.map_nil]); rfl) ?_
                      with_reducible refine (spec_spIn.calls a1 x9_4 false _ A26.out).mono ?_
                      rintro e w' ⟨rfl, ⟨nd, rfl⟩⟩
                      refine ⟨_, rfl, ?_⟩
                      refine hK.out _ _ trivial (fun hHeld => ?_)
                      clear hK K
                      refine norm_ (a' := ?_) ?_ ?_
                      rotate_left
                      ·show Act.put _ (some 53) _ = _
                       simp only [Act.put, List.setIfInBounds_toArray, List.set_cons_zero, List.set_cons_succ, i64_w, i32_w]
                       rfl
                      refine pure_ (i := 3) (N := some 54) (v := ?_) (a' := ?_) #[true, true, true, true, false, false, false, false, false, false, false, false, false, false, false, false, false, false, false, false, false, false] rfl rfl (any_of HT_.out (by kernel_rfl)) (fun _ _ _ h => h) (Or.inl ⟨by rfl, ?_⟩) ?_ ?_
                      rotate_left
                      ·intro w'
                       go_simp
                       with_reducible rfl
                      rotate_left
                      ·simp only [Act.put, List.setIfInBounds_toArray, List.set_cons_zero, List.set_cons_succ, i64_w, i32_w]
                       rfl
                      refine pure_ (i := 4) (N := some 55) (v := undef) (a' := ?_) #[true, true, true, true, true, false, false, false, false, false, false, false, false, false, false, false, false, false, false, false, false, false] rfl rfl (any_of HT_.out (by kernel_rfl)) (fun _ _ _ h => h) (Or.inr ⟨by rfl, rfl⟩) ?_ ?_
                      rotate_left
                      ·simp only [Act.put, List.setIfInBounds_toArray, List.set_cons_zero, List.set_cons_succ, i64_w, i32_w]
                       rfl
                      refine pure_ (i := 5) (N := some 56) (v := undef) (a' := ?_) #[true, true, true, true, true, true, false, false, false, false, false, false, false, false, false, false, false, false, false, false, false, false] rfl rfl (any_of HT_.out (by kernel_rfl)) (fun _ _ _ h => h) (Or.inr ⟨by rfl, rfl⟩) ?_ ?_
                      rotate_left
                      ·simp only [Act.put, List.setIfInBounds_toArray, List.set_cons_zero, List.set_cons_succ, i64_w, i32_w]
                       rfl
                      refine pure_ (i := 6) (N := some 57) (v := undef) (a' := ?_) #[true, true, true, true, true, true, true, false, false, false, false, false, false, false, false, false, false, false, false, false, false, false] rfl rfl (any_of HT_.out (by kernel_rfl)) (fun _ _ _ h => h) (Or.inr ⟨by rfl, rfl⟩) ?_ ?_
                      rotate_left
                      ·simp only [Act.put, List.setIfInBounds_toArray, List.set_cons_zero, List.set_cons_succ, i64_w, i32_w]
                       rfl
                      refine pure_ (i := 7) (N := some 58) (v := undef) (a' := ?_) #[true, true, true, true, true, true, true, true, false, false, false, false, false, false, false, false, false, false, false, false, false, false] rfl rfl (any_of HT_.out (by kernel_rfl)) (fun _ _ _ h => h) (Or.inr ⟨by rfl, rfl⟩) ?_ ?_
                      rotate_left
                      ·simp only [Act.put, List.setIfInBounds_toArray, List.set_cons_zero, List.set_cons_succ, i64_w, i32_w]
                       rfl
                      refine pure_ (i := 8) (N := some 59) (v := undef) (a' := ?_) #[true, true, true, true, true, true, true, true, true, false, false, false, false, false, false, false, false, false, false, false, false, false] rfl rfl (any_of HT_.out (by kernel_rfl)) (fun _ _ _ h => h) (Or.inr ⟨by rfl, rfl⟩) ?_ ?_
                      rotate_left
                      ·simp only [Act.put, List.setIfInBounds_toArray, List.set_cons_zero, List.set_cons_succ, i64_w, i32_w]
                       rfl
                      refine pure_ (i := 9) (N := some 60) (v := undef) (a' := ?_) #[true, true, true, true, true, true, true, true, true, true, false, false, false, false, false, false, false, false, false, false, false, false] rfl rfl (any_of HT_.out (by kernel_rfl)) (fun _ _ _ h => h) (Or.inr ⟨by rfl, rfl⟩) ?_ ?_
                      rotate_left
                      ·simp only [Act.put, List.setIfInBounds_toArray, List.set_cons_zero, List.set_cons_succ, i64_w, i32_w]
                       rfl
                      refine pure_ (i := 10) (N := some 61) (v := undef) (a' := ?_) #[true, true, true, true, true, true, true, true, true, true, true, false, false, false, false, false, false, false, false, false, false, false] rfl rfl (any_of HT_.out (by kernel_rfl)) (fun _ _ _ h => h) (Or.inr ⟨by rfl, rfl⟩) ?_ ?_
                      rotate_left
                      ·simp only [Act.put, List.setIfInBounds_toArray, List.set_cons_zero, List.set_cons_succ, i64_w, i32_w]
                       rfl
                      refine pure_ (i := 11) (N := some 62) (v := undef) (a' := ?_) #[true, true, true, true, true, true, true, true, true, true, true, true, false, false, false, false, false, false, false, false, false, false] rfl rfl (any_of HT_.out (by kernel_rfl)) (fun _ _ _ h => h) (Or.inr ⟨by rfl, rfl⟩) ?_ ?_
                      rotate_left
                      ·simp only [Act.put, List.setIfInBounds_toArray, List.set_cons_zero, List.set_cons_succ, i64_w, i32_w]
                       rfl
                      refine pure_ (i := 12) (N := some 63) (v := undef) (a' := ?_) #[true, true, true, true, true, true, true, true, true, true, true, true, true, false, false, false, false, false, false, false, false, false] rfl rfl (any_of HT_.out (by kernel_rfl)) (fun _ _ _ h => h) (Or.inr ⟨by rfl, rfl⟩) ?_ ?_
                      rotate_left
                      ·simp only [Act.put, List.setIfInBounds_toArray, List.set_cons_zero, List.set_cons_succ, i64_w, i32_w]
                       rfl
                      refine pure_ (i := 13) (N := some 64) (v := undef) (a' := ?_) #[true, true, true, true, true, true, true, true, true, true, true, true, true, true, false, false, false, false, false, false, false, false] rfl rfl (any_of HT_.out (by kernel_rfl)) (fun _ _ _ h => h) (Or.inr ⟨by rfl, rfl⟩) ?_ ?_
                      rotate_left
                      ·simp only [Act.put, List.setIfInBounds_toArray, List.set_cons_zero, List.set_cons_succ, i64_w, i32_w]
                       rfl
                      refine pure_ (i := 14) (N := some 65) (v := undef) (a' := ?_) #[true, true, true, true, true, true, true, true, true, true, true, true, true, true, true, false, false, false, false, false, false, false] rfl rfl (any_of HT_.out (by kernel_rfl)) (fun _ _ _ h => h) (Or.inr ⟨by rfl, rfl⟩) ?_ ?_
                      rotate_left
                      ·simp only [Act.put, List.setIfInBounds_toArray, List.set_cons_zero, List.set_cons_succ, i64_w, i32_w]
                       rfl
                      refine pure_ (i := 15) (N := some 66) (v := undef) (a' := ?_) #[true, true, true, true, true, true, true, true, true, true, true, true, true, true, true, true, false, false, false, false, false, false] rfl rfl (any_of HT_.out (by kernel_rfl)) (fun _ _ _ h => h) (Or.inr ⟨by rfl, rfl⟩) ?_ ?_
                      rotate_left
                      ·simp only [Act.put, List.setIfInBounds_toArray, List.set_cons_zero, List.set_cons_succ, i64_w, i32_w]
                       rfl
                      refine pure_ (i := 16) (N := some 67) (v := undef) (a' := ?_) #[true, true, true, true, true, true, true, true, true, true, true, true, true, true, true, true, true, false, false, false, false, false] rfl rfl (any_of HT_.out (by kernel_rfl)) (fun _ _ _ h => h) (Or.inr ⟨by rfl, rfl⟩) ?_ ?_
                      rotate_left
                      ·simp only [Act.put, List.setIfInBounds_toArray, List.set_cons_zero, List.set_cons_succ, i64_w, i32_w]
                       rfl
                      refine pure_ (i := 17) (N := some 68) (v := undef) (a' := ?_) #[true, true, true, true, true, true, true, true, true, true, true, true, true, true, true, true, true, true, false, false, false, false] rfl rfl (any_of HT_.out (by kernel_rfl)) (fun _ _ _ h => h) (Or.inr ⟨by rfl, rfl⟩) ?_ ?_
                      rotate_left
                      ·simp only [Act.put, List.setIfInBounds_toArray, List.set_cons_zero, List.set_cons_succ, i64_w, i32_w]
                       rfl
                      refine pure_ (i := 18) (N := some 69) (v := undef) (a' := ?_) #[true, true, true, true, true, true, true, true, true, true, true, true, true, true, true, true, true, true, true, false, false, false] rfl rfl (any_of HT_.out (by kernel_rfl)) (fun _ _ _ h => h) (Or.inr ⟨by rfl, rfl⟩) ?_ ?_
                      rotate_left
                      ·simp only [Act.put, List.setIfInBounds_toArray, List.set_cons_zero, List.set_cons_succ, i64_w, i32_w]
                       rfl
                      refine pure_ (i := 19) (N := some 70) (v := undef) (a' := ?_) #[true, true, true, true, true, true, true, true, true, true, true, true, true, true, true, true, true, true, true, true, false, false] rfl rfl (any_of HT_.out (by kernel_rfl)) (fun _ _ _ h => h) (Or.inr ⟨by rfl, rfl⟩) ?_ ?_
                      rotate_left
                      ·simp only [Act.put, List.setIfInBounds_toArray, List.set_cons_zero, List.set_cons_succ, i64_w, i32_w]
                       rfl
                      refine pure_ (i := 20) (N := some 71) (v := undef) (a' := ?_) #[true, true, true, true, true, true, true, true, true, true, true, true, true, true, true, true, true, true, true, true, true, false] rfl rfl (any_of HT_.out (by kernel_rfl)) (fun _ _ _ h => h) (Or.inr ⟨by rfl, rfl⟩) ?_ ?_
                      rotate_left
                      ·simp only [Act.put, List.setIfInBounds_toArray, List.set_cons_zero, List.set_cons_succ, i64_w, i32_w]
                       rfl
                      refine pure_ (i := 21) (N := some 72) (v := ?_) (a' := ?_) #[true, true, true, true, true, true, true, true, true, true, true, true, true, true, true, true, true, true, true, true, true, true] rfl rfl (any_of HT_.out (by kernel_rfl)) (fun _ _ _ h => h) (Or.inl ⟨by rfl, ?_⟩) ?_ ?_
                      rotate_left
                      ·intro w'
                       go_simp
                       with_reducible rfl
                      rotate_left
                      ·simp only [Act.put, List.setIfInBounds_toArray, List.set_cons_zero, List.set_cons_succ, i64_w, i32_w]
                       rfl
                      refine done_ (done_of HT_.out (by kernel_rfl)) ?_
                      try go_wp2
                      go_roundg k4
                      case measure => have := HK1.out; have := HK2.out; have := HJ7.out; have := HK4.out; omega
                      case rel => exact ⟨(wrap64 (x9_4 + 1)), (by rfl), H', ⟨by have := HK1.out; have := HK2.out; have := HJ7.out; have := HK4.out; omega⟩, ⟨by repeat ((with_reducible first | exact HB.out | apply pw_below_drewN))⟩⟩
                    ·rw [if_neg c25] at H
                     have c25b0 : decide (x9_4 < x8_2) = false := decide_eq_false c25
                     clear c25
                     have H' := Aside0.mk H
                     clear H
                     go_wp2
                     go_roundg k4
                     case measure => have := HK1.out; have := HK2.out; have := HJ7.out; have := HK4.out; omega
                     case rel => exact ⟨(wrap64 (x8_2 + 1)), (by rfl), H', ⟨by have := HK1.out; have := HK2.out; have := HJ7.out; have := HK4.out; omega⟩, ⟨by repeat ((with_reducible exact HB.out))⟩⟩
                ·rw [if_neg c18] at H
                 exact absurd H (by simp)
               ·rw [if_neg c17] at H
                exact absurd H (by simp)
              ·rw [if_neg c16] at H
               exact absurd H (by simp)
             ·rw [if_neg c15] at H
              exact absurd H (by simp)
            ·rw [if_neg c14] at H
             exact absurd H (by simp)
           ·rw [if_neg c13] at H
            exact absurd H (by simp)
       ·rw [if_neg c7] at H
        have c7b0 : decide (x8_2 < x15_1) = false := decide_eq_false c7
        clear c7
        have H' := Aside0.mk H
        clear H
        go_wp2
        go_roundg k2
        case measure => have := HK1.out; have := HK2.out; omega
        case rel => exact ⟨(wrap64 (x15_1 + 1)), (by rfl), H', ⟨by have := HK1.out; have := HK2.out; omega⟩, ⟨by repeat ((with_reducible exact HB.out))⟩⟩
    ·rw [if_neg c6] at H
     have c6b0 : decide (x15_1 < (l0.length : Int)) = false := decide_eq_false c6
     clear c6
     obtain rfl := Option.some.inj H
     go_wp2
     go_ret
     exact ⟨by rfl, by repeat ((with_reducible exact HB.out))⟩

/-! ### spec_shCover: function 82 -/
def spec_shCover.l0 : Nat → List (List Int) → Int → Int → Int → Int → Option (Int)
 | 0, _, _, _, _, _ => none
 | k + 1, x0, x1, x5, x8, x9 => if x9 < x8 then ((spec_shCovers.f k x0 x1 x9).bind fun t744 => (if t744 = true then (if 0 ≤ x9 then (spec_shCover.l0 k x0 x1 (Go.bits .or .i64 x5 (shl .i64 1 x9)) x8 (wrap64 (x9 + 1))) else (none)) else (spec_shCover.l0 k x0 x1 x5 x8 (wrap64 (x9 + 1))))) else (some x5)
def spec_shCover.f (k : Nat) (l0 : List (List Int)) (a1 : Int) : Option (Int) := spec_shCover.l0 k l0 a1 0 (l0.length : Int) 0
theorem spec_shCover.mono_l : ∀ k, (∀ y0 y1 y2 y3 y4, LeO (spec_shCover.l0 k y0 y1 y2 y3 y4) (spec_shCover.l0 (k + 1) y0 y1 y2 y3 y4))
 | 0 => fun _ _ _ _ _ r h => by simp [spec_shCover.l0] at h
 | k + 1 => by
  have ih0 := spec_shCover.mono_l k
  ·intro y0 y1 y2 y3 y4
   unfold spec_shCover.l0
   repeat' first
   | (with_reducible exact ih0 _ _ _ _ _)
   | (with_reducible exact spec_shCovers.mono _ _ _ _)
   | (with_reducible exact LeO.refl _)
   | (with_reducible refine LeO.ite ?_ ?_)
   | (with_reducible refine LeO.bind ?_ (fun _ => ?_))
theorem spec_shCover.mono : ∀ a0 a1 k, LeO (spec_shCover.f k a0 a1) (spec_shCover.f (k + 1) a0 a1) := by
 intro a0 a1 k
 have ih0 := spec_shCover.mono_l k
 unfold spec_shCover.f
 repeat' first
   | (with_reducible exact ih0 _ _ _ _ _)
set_option maxHeartbeats 8000000 in
set_option maxRecDepth 100000 in
theorem spec_shCover.calls (k : Nat) (A0 : Option Addr) (c0 : Nat) (l0 : List (List Int)) (a1 : Int) (r : Int) (w : World) (hr0 : Kd.C (Kd.slice 3 (Kd.int .i64)) w A0 l0.length l0) (hc0 : l0.length ≤ c0) (h : spec_shCover.f k l0 a1 = some r) :
  Calls Try.prog 82 #[.slice A0 l0.length c0, .int .i64 a1] w fun e w' => e = .returned (.int .i64 r) ∧ Below w.heap.size w w' := by
 have HR0 := Aside0.mk hr0
 have HC0 := Aside0.mk hc0
 clear hr0 hc0
 have HB := Aside0.mk (Below.refl w.heap.size w)
 have H : (spec_shCover.l0 k l0 a1 0 (l0.length : Int) 0) = some r := h
 clear h
 have H' := Aside0.mk H
 clear H
 go_enter Try.func82, Try.ntmps82
 go_wp2
 go_loopg [5, 9] k (fun kq v5 v9 w' => ∃ (x5_1 : Int) (x9_1 : Int), v5 = .int .i64 x5_1 ∧ v9 = .int .i64 x9_1 ∧ Aside0 (spec_shCover.l0 kq l0 a1 x5_1 (l0.length : Int) x9_1 = some r) ∧ Aside0 (kq ≤ k) ∧ Aside0 (Below w.heap.size w w'))
 case atStart => exact ⟨(0), (0), (by rfl), (by rfl), H', ⟨Nat.le_refl _⟩, ⟨by repeat ((with_reducible exact HB.out))⟩⟩
 case round =>
  clear H'
  try clear p2
  obtain ⟨x5_1, x9_1, rfl, rfl, HA, HK1, HB⟩ := hrel
  cases gk with
  | zero => exact absurd HA.out (by simp [spec_shCover.l0])
  | succ k1 =>
   have H := HA.out
   clear HA
   simp only [spec_shCover.l0] at H
   by_cases c3 : x9_1 < (l0.length : Int)
   ·rw [if_pos c3] at H
    have c3b0 : decide (x9_1 < (l0.length : Int)) = true := decide_eq_true c3
    clear c3
    replace H := Option.bind_eq_some_iff.mp H
    obtain ⟨t744, A40, H⟩ := H
    replace H : (if t744 = true then (if 0 ≤ x9_1 then (spec_shCover.l0 k1 l0 a1 (Go.bits .or .i64 x5_1 (shl .i64 1 x9_1)) (l0.length : Int) (wrap64 (x9_1 + 1))) else (none)) else (spec_shCover.l0 k1 l0 a1 x5_1 (l0.length : Int) (wrap64 (x9_1 + 1)))) = some r := H
    have A4 := Aside0.mk A40
    clear A40
    by_cases c5 : t744 = true
    ·subst c5
     have H1 : (if 0 ≤ x9_1 then (spec_shCover.l0 k1 l0 a1 (Go.bits .or .i64 x5_1 (shl .i64 1 x9_1)) (l0.length : Int) (wrap64 (x9_1 + 1))) else (none)) = some r := by rw [if_pos rfl] at H; exact H
     clear H
     have H := H1
     clear H1
     by_cases c6 : 0 ≤ x9_1
     ·rw [if_pos c6] at H
      have c6b0 := eq_true c6
      have c6b1 : decide (0 ≤ x9_1) = true := decide_eq_true c6
      clear c6
      obtain ⟨ji7, hji7⟩ : ∃ j_ : Int, (shl .i64 1 x9_1) = j_ := ⟨_, rfl⟩
      replace H : (spec_shCover.l0 k1 l0 a1 (Go.bits .or .i64 x5_1 (ji7)) (l0.length : Int) (wrap64 (x9_1 + 1))) = some r := by (rw [hji7] at H; exact H)
      skip
      have hji7_ : (IntKind.i64.wrap (1 * 2 ^ min x9_1.toNat 64)) = ji7 := hji7
      have hji7z : x9_1 ≤ 64 → (IntKind.i64.wrap (1 * 2 ^ x9_1.toNat)) = ji7 := shl_small hji7
      have hji7u : (IntKind.i64.wrap (2 ^ min x9_1.toNat 64)) = ji7 := by have h_ := hji7_; rw [Int.one_mul] at h_; exact h_
      have hji7v : x9_1 ≤ 64 → (IntKind.i64.wrap (2 ^ x9_1.toNat)) = ji7 := fun hle_ => by have h_ := hji7z hle_; rw [Int.one_mul] at h_; exact h_
      have hji7y : (wrap64 (1 * 2 ^ min x9_1.toNat 64)) = ji7 := (i64_w _).symm.trans hji7_
      have hji7x : x9_1 ≤ 64 → (wrap64 (1 * 2 ^ x9_1.toNat)) = ji7 := fun h_ => (i64_w _).symm.trans (hji7z h_)
      have H' := Aside0.mk H
      clear H
      go_wp2_with (((with_reducible refine gate_callee (f := 111) rfl ?_); refine goesL_ (some 15) rfl rfl Try.func111 (by kernel_rfl) rfl #[.slice A0 l0.length c0, .int .i64 a1, .int .i64 x9_1] rfl (by (try simp only [List.map_toArray, List.map_cons, List.map_nil]); rfl) ?_; (with_reducible refine (spec_shCovers.calls k1 _ _ l0 a1 x9_1 true _ ?side1 ?side2 A4.out).mono ?_); (case side1 => repeat (exact (Kd.C_below HR0.out HB.out))); (case side2 => exact HC0.out); rintro e w8 ⟨rfl, hb⟩; refine ⟨_, rfl, ?_⟩; have n0_ := Aside0.mk (below_step (by repeat ((with_reducible exact HB.out))) hb); clear HB; have HB := n0_; clear n0_; (try clear hb); skip))
      go_roundg k1
      case measure => have := HK1.out; omega
      case rel => exact ⟨(Go.bits .or .i64 x5_1 (ji7)), (wrap64 (x9_1 + 1)), (by rfl), (by rfl), H', ⟨by have := HK1.out; omega⟩, ⟨by repeat ((with_reducible exact HB.out))⟩⟩
     ·rw [if_neg c6] at H
      exact absurd H (by simp)
    ·replace c5 := Bool.eq_false_iff.mpr c5
     subst c5
     have H1 : (spec_shCover.l0 k1 l0 a1 x5_1 (l0.length : Int) (wrap64 (x9_1 + 1))) = some r := by rw [if_neg (show ¬ (false = true) by decide)] at H; exact H
     clear H
     have H := H1
     clear H1
     have H' := Aside0.mk H
     clear H
     go_wp2_with (((with_reducible refine gate_callee (f := 111) rfl ?_); refine goesL_ (some 15) rfl rfl Try.func111 (by kernel_rfl) rfl #[.slice A0 l0.length c0, .int .i64 a1, .int .i64 x9_1] rfl (by (try simp only [List.map_toArray, List.map_cons, List.map_nil]); rfl) ?_; (with_reducible refine (spec_shCovers.calls k1 _ _ l0 a1 x9_1 false _ ?side1 ?side2 A4.out).mono ?_); (case side1 => repeat (exact (Kd.C_below HR0.out HB.out))); (case side2 => exact HC0.out); rintro e w9 ⟨rfl, hb⟩; refine ⟨_, rfl, ?_⟩; have n0_ := Aside0.mk (below_step (by repeat ((with_reducible exact HB.out))) hb); clear HB; have HB := n0_; clear n0_; (try clear hb); skip))
     go_roundg k1
     case measure => have := HK1.out; omega
     case rel => exact ⟨(x5_1), (wrap64 (x9_1 + 1)), (by rfl), (by rfl), H', ⟨by have := HK1.out; omega⟩, ⟨by repeat ((with_reducible exact HB.out))⟩⟩
   ·rw [if_neg c3] at H
    have c3b0 : decide (x9_1 < (l0.length : Int)) = false := decide_eq_false c3
    clear c3
    obtain rfl := Option.some.inj H
    go_wp2
    go_ret
    exact ⟨by rfl, by repeat ((with_reducible exact HB.out))⟩

/-! ### spec_PointSpace: function 44 -/
def spec_PointSpace.l0 : Nat → List (List Int) → Int → Int → Int → List Int → Option (Int × List Int × Bool)
 | 0, _, _, _, _, _ => none
 | k + 1, x0, x5, x6, x748000, x748001 => if x6 ≤ x5 then ((spec_shCover.f k x0 (Go.bits .andNot .i64 x5 x6)).bind fun t748 => (if t748 = (Go.bits .andNot .i64 x5 x6) then (if x748001.length < 17592186044416 then (spec_PointSpace.l0 k x0 x5 (wrap64 (x6 + 1)) x748000 (x748001 ++ [x6])) else (none)) else (spec_PointSpace.l0 k x0 x5 (wrap64 (x6 + 1)) x748000 x748001))) else (some (x748000, x748001, true))
def spec_PointSpace.f (k : Nat) (l0 : List (List Int)) : Option (Int × List Int × Bool) := (spec_shPoints.f k l0).bind fun t746 => (if t746 = true then (spec_PointSpace.l0 k l0 (wrap64 ((shl .i64 1 (l0.length : Int)) - 1)) 0 (l0.length : Int) ([] : List Int)) else (some (0, ([] : List Int), false)))
theorem spec_PointSpace.mono_l : ∀ k, (∀ y0 y1 y2 y3 y4, LeO (spec_PointSpace.l0 k y0 y1 y2 y3 y4) (spec_PointSpace.l0 (k + 1) y0 y1 y2 y3 y4))
 | 0 => fun _ _ _ _ _ r h => by simp [spec_PointSpace.l0] at h
 | k + 1 => by
  have ih0 := spec_PointSpace.mono_l k
  ·intro y0 y1 y2 y3 y4
   unfold spec_PointSpace.l0
   repeat' first
   | (with_reducible exact ih0 _ _ _ _ _)
   | (with_reducible exact spec_shCover.mono _ _ _)
   | (with_reducible exact LeO.refl _)
   | (with_reducible refine LeO.ite ?_ ?_)
   | (with_reducible refine LeO.bind ?_ (fun _ => ?_))
theorem spec_PointSpace.mono : ∀ a0 k, LeO (spec_PointSpace.f k a0) (spec_PointSpace.f (k + 1) a0) := by
 intro a0 k
 have ih0 := spec_PointSpace.mono_l k
 unfold spec_PointSpace.f
 repeat' first
   | (with_reducible exact ih0 _ _ _ _ _)
   | (with_reducible exact spec_shPoints.mono _ _)
   | (with_reducible exact LeO.refl _)
   | (with_reducible refine LeO.ite ?_ ?_)
   | (with_reducible refine LeO.bind ?_ (fun _ => ?_))
set_option maxHeartbeats 8000000 in
set_option maxRecDepth 100000 in
theorem spec_PointSpace.calls (k : Nat) (A0 : Option Addr) (c0 : Nat) (l0 : List (List Int)) (r1 : Int) (r2 : List Int) (r3 : Bool) (w : World) (hr0 : Kd.C (Kd.slice 3 (Kd.int .i64)) w A0 l0.length l0) (hc0 : l0.length ≤ c0) (h : spec_PointSpace.f k l0 = some (r1, r2, r3)) :
  Calls Try.prog 44 #[.slice A0 l0.length c0] w fun e w' => ∃ v1_ : Value, e = .returned (.tuple #[.agg #[.int .i64 r1, v1_], .bool r3]) ∧ Kd.R (Kd.int .i64) 3 w' w.heap.size (fun _ => True) v1_ r2 ∧ Below w.heap.size w w' := by
 have hu29 := Try.underlying29
 have HR0 := Aside0.mk hr0
 have HC0 := Aside0.mk hc0
 clear hr0 hc0
 have HB := Aside0.mk (Below.refl w.heap.size w)
 have H : ((spec_shPoints.f k l0).bind fun t746 => (if t746 = true then (spec_PointSpace.l0 k l0 (wrap64 ((shl .i64 1 (l0.length : Int)) - 1)) 0 (l0.length : Int) ([] : List Int)) else (some (0, ([] : List Int), false)))) = some (r1, r2, r3) := h
 clear h
 replace H := Option.bind_eq_some_iff.mp H
 obtain ⟨t746, A20, H⟩ := H
 replace H : (if t746 = true then (spec_PointSpace.l0 k l0 (wrap64 ((shl .i64 1 (l0.length : Int)) - 1)) 0 (l0.length : Int) ([] : List Int)) else (some (0, ([] : List Int), false))) = some (r1, r2, r3) := H
 have A2 := Aside0.mk A20
 clear A20
 by_cases c3 : t746 = true
 ·subst c3
  have H1 : (spec_PointSpace.l0 k l0 (wrap64 ((shl .i64 1 (l0.length : Int)) - 1)) 0 (l0.length : Int) ([] : List Int)) = some (r1, r2, r3) := by rw [if_pos rfl] at H; exact H
  clear H
  have H := H1
  clear H1
  obtain ⟨ji4, hji4⟩ : ∃ j_ : Int, (shl .i64 1 (l0.length : Int)) = j_ := ⟨_, rfl⟩
  replace H : (spec_PointSpace.l0 k l0 (wrap64 ((ji4) - 1)) 0 (l0.length : Int) ([] : List Int)) = some (r1, r2, r3) := by (rw [hji4] at H; exact H)
  skip
  have hji4_ : (IntKind.i64.wrap (1 * 2 ^ min (l0.length : Int).toNat 64)) = ji4 := hji4
  have hji4z : (l0.length : Int) ≤ 64 → (IntKind.i64.wrap (1 * 2 ^ (l0.length : Int).toNat)) = ji4 := shl_small hji4
  have hji4p : (IntKind.i64.wrap (1 * 2 ^ min l0.length 64)) = ji4 := hji4_
  have hji4q : (l0.length : Int) ≤ 64 → (IntKind.i64.wrap (1 * 2 ^ l0.length)) = ji4 := hji4z
  have hji4r : (IntKind.i64.wrap (2 ^ min l0.length 64)) = ji4 := by have h_ := hji4p; rw [Int.one_mul] at h_; exact h_
  have hji4s : (l0.length : Int) ≤ 64 → (IntKind.i64.wrap (2 ^ l0.length)) = ji4 := fun hle_ => by have h_ := hji4q hle_; rw [Int.one_mul] at h_; exact h_
  have hji4u : (IntKind.i64.wrap (2 ^ min (l0.length : Int).toNat 64)) = ji4 := by have h_ := hji4_; rw [Int.one_mul] at h_; exact h_
  have hji4v : (l0.length : Int) ≤ 64 → (IntKind.i64.wrap (2 ^ (l0.length : Int).toNat)) = ji4 := fun hle_ => by have h_ := hji4z hle_; rw [Int.one_mul] at h_; exact h_
  have hji4y : (wrap64 (1 * 2 ^ min (l0.length : Int).toNat 64)) = ji4 := (i64_w _).symm.trans hji4_
  have hji4x : (l0.length : Int) ≤ 64 → (wrap64 (1 * 2 ^ (l0.length : Int).toNat)) = ji4 := fun h_ => (i64_w _).symm.trans (hji4z h_)
  have H' := Aside0.mk H
  clear H
  go_enter Try.func44, Try.ntmps44
  go_wp2_with (first | ((with_reducible refine gate_dst (N := 2) rfl ?_); refine box_event ?hg (N := 2) ?hd (cs := #[.int .i64 0, .slice none 0 0]) (t := 29) ?hr ?_; (case hd => rfl); (case hg => rfl); (case hr => (go_simp; done)); intro gb745 hg w5 hbox hb; have n0_ := Aside0.mk (below_step (by repeat ((with_reducible exact HB.out))) hb); have n1_ := Aside0.mk (hbox); have n2_ := Aside0.mk ((by rw [hg]; exact (below_size (by repeat ((with_reducible exact HB.out)))) : w.heap.size ≤ gb745)); have n3_ := Aside0.mk ((by rw [hg]; exact (below_size (by repeat ((with_reducible exact HB.out)))) : w.heap.size ≤ gb745)); clear HB; have HB := n0_; have BK745 := n1_; have GW745 := n2_; have GE745 := n3_; clear n0_ n1_ n2_ n3_; clear hb hbox hg) | ((with_reducible refine gate_callee (f := 81) rfl ?_); refine goesL_ (some 8) rfl rfl Try.func81 (by kernel_rfl) rfl #[.slice A0 l0.length c0] rfl (by (try simp only [List.map_toArray, List.map_cons, List.map_nil]); rfl) ?_; (with_reducible refine (spec_shPoints.calls k _ _ l0 true _ ?side1 ?side2 A2.out).mono ?_); (case side1 => repeat (exact (Kd.C_below HR0.out HB.out))); (case side2 => exact HC0.out); rintro e w' ⟨rfl, ⟨nd, rfl⟩⟩; refine ⟨_, rfl, ?_⟩; (try (rw [drewN_self w5]; generalize hq_ : World.drewN w5 _ = w5; have n0_ : Aside0 (w5.heap[gb745]? = some (.cells #[.int .i64 0, .slice none 0 0] 29 (0, 0))) := ⟨by rw [← hq_]; exact (by (with_reducible repeat (refine blk_drewN ?_ _)); exact BK745.out)⟩; have n1_ : Aside0 (Below w.heap.size w w5) := ⟨by rw [← hq_]; exact (by repeat ((with_reducible first | exact HB.out | apply pw_below_drewN)))⟩; clear BK745 HB hq_; have BK745 := n0_; have HB := n1_; clear n0_ n1_))) | ((with_reducible refine gate_dst (N := 4) rfl ?_); refine box_event ?hg (N := 4) ?hd (cs := #[.int .i64 0, .slice none 0 0]) (t := 29) ?hr ?_; (case hd => rfl); (case hg => rfl); (case hr => (go_simp; done)); intro gb747 hg w6 hbox hb; have n0_ := Aside0.mk (blk_below (g := gb745) (o := .cells #[.int .i64 0, .slice none 0 0] 29 (0, 0)) (by (with_reducible repeat (refine blk_drew ?_)); exact BK745.out) hb); have n1_ := Aside0.mk (below_step (by repeat ((with_reducible exact HB.out))) hb); have n2_ := Aside0.mk (hbox); have n3_ := Aside0.mk ((by rw [hg]; exact (below_size (by repeat ((with_reducible exact HB.out)))) : w.heap.size ≤ gb747)); have n4_ := Aside0.mk ((by rw [hg]; exact (below_size (by repeat ((with_reducible exact HB.out)))) : w.heap.size ≤ gb747)); have n5_ := Aside0.mk ((by rw [hg]; exact Nat.ne_of_lt (blk_lt (g := gb745) (o := .cells #[.int .i64 0, .slice none 0 0] 29 (0, 0)) (by (with_reducible repeat (refine blk_drew ?_)); exact BK745.out)) : gb745 ≠ gb747)); have n6_ := Aside0.mk ((by rw [hg]; exact Nat.ne_of_gt (blk_lt (g := gb745) (o := .cells #[.int .i64 0, .slice none 0 0] 29 (0, 0)) (by (with_reducible repeat (refine blk_drew ?_)); exact BK745.out)) : gb747 ≠ gb745)); clear BK745; clear HB; have BK745 := n0_; have HB := n1_; have BK747 := n2_; have GW747 := n3_; have GE747 := n4_; have NB745_747 := n5_; have NB747_745 := n6_; clear n0_ n1_ n2_ n3_ n4_ n5_ n6_; clear hb hbox hg; have hnb7 := NB747_745.out; have hnc7 := NB745_747.out; have hcz8_0 : w6.cell? ⟨gb747, 0, none⟩ = some (.int .i64 0) := (blk_cell BK747.out 0).trans rfl; have hcz8_1 : w6.cell? ⟨gb747, 1, none⟩ = some (.slice none 0 0) := (blk_cell BK747.out 1).trans rfl; have hfz8_0 := blk_frozen BK747.out 0; have hfz8_1 := blk_frozen BK747.out 1))
  go_loopg [6] k (fun kq v6 w' => ∃ (x6_1 : Int) (x748001_1 : List Int) (u748001 : Value), v6 = .int .i64 x6_1 ∧ Aside0 (spec_PointSpace.l0 kq l0 (wrap64 ((ji4) - 1)) x6_1 (l0.length : Int) x748001_1 = some (r1, r2, r3)) ∧ Aside0 (kq ≤ k) ∧ Aside0 (Kd.R (Kd.int .i64) 3 w' w.heap.size (fun _ => True) u748001 x748001_1) ∧ Aside0 (w'.heap[gb745]? = some (.cells #[.int .i64 0, (.slice none 0 0)] 29 (0, 0))) ∧ Aside0 (w'.heap[gb747]? = some (.cells #[.int .i64 (l0.length : Int), u748001] 29 (0, 0))) ∧ Aside0 (Below w.heap.size w w'))
  case atStart => exact ⟨(0), (([] : List Int)), (.slice none 0 0), (by rfl), H', ⟨Nat.le_refl _⟩, ⟨by exact Kd.R_nil _ _ _ _ _⟩, ⟨by (with_reducible repeat (refine blk_drew ?_)); refine blk_far ?_ NB745_747.out _; (with_reducible repeat (refine blk_drew ?_)); refine blk_far ?_ NB745_747.out _; (with_reducible repeat (refine blk_drew ?_)); exact BK745.out⟩, ⟨by (with_reducible repeat (refine blk_drew ?_)); refine blk_put (cs := #[.int .i64 (l0.length : Int), .slice none 0 0]) ?_ 1 _ rfl; (with_reducible repeat (refine blk_drew ?_)); refine blk_put (cs := #[.int .i64 0, .slice none 0 0]) ?_ 0 _ rfl; (with_reducible repeat (refine blk_drew ?_)); exact BK747.out⟩, ⟨by repeat ((with_reducible first | exact HB.out | refine below_set ?_ GE747.out))⟩⟩
  case round =>
   clear H'
   try clear p2
   try clear c3
   try clear c4
   try clear p6
   try clear c7
   try clear c8
   try clear hcz8_0
   try clear hcz8_1
   try clear hfz8_0
   try clear hfz8_1
   obtain ⟨x6_1, x748001_1, u748001, rfl, HA, HK1, HO_748001, BK745, BK747, HB⟩ := hrel
   cases gk with
   | zero => exact absurd HA.out (by simp [spec_PointSpace.l0])
   | succ k1 =>
    have H := HA.out
    clear HA
    simp only [spec_PointSpace.l0] at H
    by_cases c9 : x6_1 ≤ (wrap64 ((ji4) - 1))
    ·rw [if_pos c9] at H
     have c9b0 : decide (x6_1 ≤ (wrap64 ((ji4) - 1))) = true := decide_eq_true c9
     clear c9
     replace H := Option.bind_eq_some_iff.mp H
     obtain ⟨t748, A100, H⟩ := H
     replace H : (if t748 = (Go.bits .andNot .i64 (wrap64 ((ji4) - 1)) x6_1) then (if x748001_1.length < 17592186044416 then (spec_PointSpace.l0 k1 l0 (wrap64 ((ji4) - 1)) (wrap64 (x6_1 + 1)) (l0.length : Int) (x748001_1 ++ [x6_1])) else (none)) else (spec_PointSpace.l0 k1 l0 (wrap64 ((ji4) - 1)) (wrap64 (x6_1 + 1)) (l0.length : Int) x748001_1)) = some (r1, r2, r3) := H
     have A10 := Aside0.mk A100
     clear A100
     by_cases c11 : t748 = (Go.bits .andNot .i64 (wrap64 ((ji4) - 1)) x6_1)
     ·rw [if_pos c11] at H
      have c11b0 : (t748 == (Go.bits .andNot .i64 (wrap64 ((ji4) - 1)) x6_1)) = true := beq_iff_eq.mpr c11
      have c11b1 : (t748 != (Go.bits .andNot .i64 (wrap64 ((ji4) - 1)) x6_1)) = false := bne_eq_false_iff_eq.mpr c11
      clear c11
      by_cases c12 : x748001_1.length < 17592186044416
      ·rw [if_pos c12] at H
       have LMc12 := Aside0.mk c12
       clear c12
       obtain ⟨y749, hy749⟩ : ∃ y_ : List Int, y_ = (x748001_1 ++ [x6_1]) := ⟨_, rfl⟩
       replace H : (spec_PointSpace.l0 k1 l0 (wrap64 ((ji4) - 1)) (wrap64 (x6_1 + 1)) (l0.length : Int) y749) = some (r1, r2, r3) := by (rw [hy749]; with_reducible exact H)
       have Ny749 := Aside0.mk hy749
       clear hy749
       have H' := Aside0.mk H
       clear H
       go_wp2_with (first | ((with_reducible refine gate_callee (f := 82) rfl ?_); refine goesL_ (some 27) rfl rfl Try.func82 (by kernel_rfl) rfl #[.slice A0 l0.length c0, .int .i64 (Go.bits .andNot .i64 (wrap64 ((ji4) - 1)) x6_1)] rfl (by (try simp only [List.map_toArray, List.map_cons, List.map_nil]); rfl) ?_; (with_reducible refine (spec_shCover.calls k1 _ _ l0 (Go.bits .andNot .i64 (wrap64 ((ji4) - 1)) x6_1) t748 _ ?side1 ?side2 A10.out).mono ?_); (case side1 => repeat (exact (Kd.C_below HR0.out HB.out))); (case side2 => exact HC0.out); rintro e w13 ⟨rfl, hb⟩; refine ⟨_, rfl, ?_⟩; have n0_ := Aside0.mk (Kd.R_below (by (with_reducible repeat (apply Kd.R_drew)); exact HO_748001.out) hb); have n1_ := Aside0.mk (blk_below (g := gb745) (o := .cells #[.int .i64 0, .slice none 0 0] 29 (0, 0)) (by (with_reducible repeat (refine blk_drew ?_)); exact BK745.out) hb); have n2_ := Aside0.mk (blk_below (g := gb747) (o := .cells #[.int .i64 (l0.length : Int), u748001] 29 (0, 0)) (by (with_reducible repeat (refine blk_drew ?_)); exact BK747.out) hb); have n3_ := Aside0.mk (below_step (by repeat ((with_reducible exact HB.out))) hb); clear HO_748001; clear BK745; clear BK747; clear HB; have HO_748001 := n0_; have BK745 := n1_; have BK747 := n2_; have HB := n3_; clear n0_ n1_ n2_ n3_; (try clear hb); have hnb14 := NB747_745.out; have hnc14 := NB745_747.out; have hcz15_0 : w13.cell? ⟨gb747, 0, none⟩ = some (.int .i64 (l0.length : Int)) := (blk_cell BK747.out 0).trans rfl; have hcz15_1 : w13.cell? ⟨gb747, 1, none⟩ = some (u748001) := (blk_cell BK747.out 1).trans rfl; have hfz15_0 := blk_frozen BK747.out 0; have hfz15_1 := blk_frozen BK747.out 1) | ((with_reducible refine gate_builtin (b := .append) (xs := #[.tmp 33, .tmp 35]) rfl ?_); at_builtin; refine Kd.R_append (Kd.int .i64) (w0 := w) w.heap.size rfl (.tmp 33) (.tmp 35) 22 3 (.int .i64 0) 8 rfl Try.underlying22 info3 rfl (by decide) (by omega) u748001 x748001_1 x6_1 [.int .i64 x6_1] (fun _ => True) (fun _ => False) rfl rfl ?aP (fun _ hk => hk.elim) ?aF ?aO ?aB ?aS ?aL ?_; (case aP => exact rfl); (case aB => exact (by repeat ((with_reducible exact HB.out)))); (case aF => exact (fun _ _ => trivial)); (case aO => exact (by (with_reducible repeat (apply Kd.R_drew)); exact HO_748001.out)); (case aS => exact (below_size (by repeat ((with_reducible exact HB.out))))); (case aL => have := LMc12.out; omega); intro v750 w16 ho hb hg hat; rw [← Ny749.out] at ho; have n0_ := Aside0.mk (blk_grown (g := gb745) (o := .cells #[.int .i64 0, .slice none 0 0] 29 (0, 0)) (by (with_reducible repeat (refine blk_drew ?_)); exact BK745.out) hg (Kd.R_ne HO_748001.out BK745.out (by decide))); have n1_ := Aside0.mk (blk_grown (g := gb747) (o := .cells #[.int .i64 (l0.length : Int), u748001] 29 (0, 0)) (by (with_reducible repeat (refine blk_drew ?_)); exact BK747.out) hg (Kd.R_ne HO_748001.out BK747.out (by decide))); have n2_ := Aside0.mk (hb); have n3_ := Aside0.mk (ho); clear BK745; clear BK747; clear HB; clear HO_748001; have BK745 := n0_; have BK747 := n1_; have HB := n2_; have HO751 := n3_; clear n0_ n1_ n2_ n3_; clear ho hb hg hat; obtain ⟨Ao17, co17, eo17⟩ := Kd.R_slice HO751.out; subst eo17; have hcz18_0 : w16.cell? ⟨gb747, 0, none⟩ = some (.int .i64 (l0.length : Int)) := (blk_cell BK747.out 0).trans rfl; have hcz18_1 : w16.cell? ⟨gb747, 1, none⟩ = some (u748001) := (blk_cell BK747.out 1).trans rfl; have hfz18_0 := blk_frozen BK747.out 0; have hfz18_1 := blk_frozen BK747.out 1))
       go_roundg k1
       case measure => have := HK1.out; omega
       case rel => exact ⟨(wrap64 (x6_1 + 1)), (y749), (.slice Ao17 y749.length co17), (by rfl), H', ⟨by have := HK1.out; omega⟩, ⟨by (with_reducible repeat (apply Kd.R_drew)); exact Kd.R_mono (Kd.R_far (p := ⟨gb747, 1, none⟩) (Kd.R_types HO751.out BK747.out (by decide)) (fun _ hk => hk.2) (.slice Ao17 y749.length co17)) (fun _ hk => trivial)⟩, ⟨by (with_reducible repeat (refine blk_drew ?_)); refine blk_far ?_ NB745_747.out _; (with_reducible repeat (refine blk_drew ?_)); exact BK745.out⟩, ⟨by (with_reducible repeat (refine blk_drew ?_)); refine blk_put (cs := #[.int .i64 (l0.length : Int), u748001]) ?_ 1 _ rfl; (with_reducible repeat (refine blk_drew ?_)); exact BK747.out⟩, ⟨by repeat ((with_reducible first | exact HB.out | refine below_set ?_ GE747.out))⟩⟩
      ·rw [if_neg c12] at H
       exact absurd H (by simp)
     ·rw [if_neg c11] at H
      have c11b0 : (t748 == (Go.bits .andNot .i64 (wrap64 ((ji4) - 1)) x6_1)) = false := beq_eq_false_iff_ne.mpr c11
      have c11b1 : (t748 != (Go.bits .andNot .i64 (wrap64 ((ji4) - 1)) x6_1)) = true := bne_iff_ne.mpr c11
      have H' := Aside0.mk H
      clear H
      go_wp2_with (((with_reducible refine gate_callee (f := 82) rfl ?_); refine goesL_ (some 27) rfl rfl Try.func82 (by kernel_rfl) rfl #[.slice A0 l0.length c0, .int .i64 (Go.bits .andNot .i64 (wrap64 ((ji4) - 1)) x6_1)] rfl (by (try simp only [List.map_toArray, List.map_cons, List.map_nil]); rfl) ?_; (with_reducible refine (spec_shCover.calls k1 _ _ l0 (Go.bits .andNot .i64 (wrap64 ((ji4) - 1)) x6_1) t748 _ ?side1 ?side2 A10.out).mono ?_); (case side1 => repeat (exact (Kd.C_below HR0.out HB.out))); (case side2 => exact HC0.out); rintro e w19 ⟨rfl, hb⟩; refine ⟨_, rfl, ?_⟩; have n0_ := Aside0.mk (Kd.R_below (by (with_reducible repeat (apply Kd.R_drew)); exact HO_748001.out) hb); have n1_ := Aside0.mk (blk_below (g := gb745) (o := .cells #[.int .i64 0, .slice none 0 0] 29 (0, 0)) (by (with_reducible repeat (refine blk_drew ?_)); exact BK745.out) hb); have n2_ := Aside0.mk (blk_below (g := gb747) (o := .cells #[.int .i64 (l0.length : Int), u748001] 29 (0, 0)) (by (with_reducible repeat (refine blk_drew ?_)); exact BK747.out) hb); have n3_ := Aside0.mk (below_step (by repeat ((with_reducible exact HB.out))) hb); clear HO_748001; clear BK745; clear BK747; clear HB; have HO_748001 := n0_; have BK745 := n1_; have BK747 := n2_; have HB := n3_; clear n0_ n1_ n2_ n3_; (try clear hb); skip))
      go_roundg k1
      case measure => have := HK1.out; omega
      case rel => exact ⟨(wrap64 (x6_1 + 1)), (x748001_1), (u748001), (by rfl), H', ⟨by have := HK1.out; omega⟩, ⟨by (with_reducible repeat (apply Kd.R_drew)); exact HO_748001.out⟩, ⟨by (with_reducible repeat (refine blk_drew ?_)); exact BK745.out⟩, ⟨by (with_reducible repeat (refine blk_drew ?_)); exact BK747.out⟩, ⟨by repeat ((with_reducible exact HB.out))⟩⟩
    ·rw [if_neg c9] at H
     have c9b0 : decide (x6_1 ≤ (wrap64 ((ji4) - 1))) = false := decide_eq_false c9
     clear c9
     simp only [Option.some.injEq, Prod.mk.injEq] at H
     obtain ⟨rfl, rfl, rfl⟩ := H
     have hnb20 := NB747_745.out
     have hnc20 := NB745_747.out
     have hcz21_0 : wr.cell? ⟨gb747, 0, none⟩ = some (.int .i64 (l0.length : Int)) := (blk_cell BK747.out 0).trans rfl
     have hcz21_1 : wr.cell? ⟨gb747, 1, none⟩ = some (u748001) := (blk_cell BK747.out 1).trans rfl
     have hfz21_0 := blk_frozen BK747.out 0
     have hfz21_1 := blk_frozen BK747.out 1
     have hcz22_0 : wr.cell? ⟨gb745, 0, none⟩ = some (.int .i64 0) := (blk_cell BK745.out 0).trans rfl
     have hcz22_1 : wr.cell? ⟨gb745, 1, none⟩ = some (.slice none 0 0) := (blk_cell BK745.out 1).trans rfl
     have hfz22_0 := blk_frozen BK745.out 0
     have hfz22_1 := blk_frozen BK745.out 1
     obtain ⟨Ao23, co23, eo23⟩ := Kd.R_slice HO_748001.out
     subst eo23
     go_wp2
     refine bodyPost_ret (results_ct rfl _ _ gb745 29 #[.int .i64 (l0.length : Int), .slice Ao23 x748001_1.length co23] (0, 0) _ rfl (by (with_reducible repeat (refine blk_drew ?_)); refine blk_put (cs := #[.int .i64 (l0.length : Int), .slice none 0 0]) ?_ 1 _ rfl; (with_reducible repeat (refine blk_drew ?_)); refine blk_put (cs := #[.int .i64 0, .slice none 0 0]) ?_ 0 _ rfl; (with_reducible repeat (refine blk_drew ?_)); exact BK745.out) Try.underlying29 rfl (by kernel_rfl)) rfl ?_
     exact ⟨_, by rfl, by (with_reducible repeat (apply Kd.R_drew)); exact Kd.R_mono (Kd.R_far (p := ⟨gb745, 1, none⟩) (Kd.R_far (p := ⟨gb745, 0, none⟩) (Kd.R_types HO_748001.out BK745.out (by decide)) (fun _ hk => hk.2) (.int .i64 (l0.length : Int))) (fun _ hk => hk.2) (.slice Ao23 x748001_1.length co23)) (fun _ hk => trivial), by repeat ((with_reducible first | exact HB.out | refine below_set ?_ GE745.out))⟩
 ·replace c3 := Bool.eq_false_iff.mpr c3
  subst c3
  have H1 : (some (0, ([] : List Int), false)) = some (r1, r2, r3) := by rw [if_neg (show ¬ (false = true) by decide)] at H; exact H
  clear H
  have H := H1
  clear H1
  simp only [Option.some.injEq, Prod.mk.injEq] at H
  obtain ⟨rfl, rfl, rfl⟩ := H
  go_enter Try.func44, Try.ntmps44
  go_wp2_with (first | ((with_reducible refine gate_dst (N := 2) rfl ?_); refine box_event ?hg (N := 2) ?hd (cs := #[.int .i64 0, .slice none 0 0]) (t := 29) ?hr ?_; (case hd => rfl); (case hg => rfl); (case hr => (go_simp; done)); intro gb745 hg w24 hbox hb; have n0_ := Aside0.mk (below_step (by repeat ((with_reducible exact HB.out))) hb); have n1_ := Aside0.mk (hbox); have n2_ := Aside0.mk ((by rw [hg]; exact (below_size (by repeat ((with_reducible exact HB.out)))) : w.heap.size ≤ gb745)); have n3_ := Aside0.mk ((by rw [hg]; exact (below_size (by repeat ((with_reducible exact HB.out)))) : w.heap.size ≤ gb745)); clear HB; have HB := n0_; have BK745 := n1_; have GW745 := n2_; have GE745 := n3_; clear n0_ n1_ n2_ n3_; clear hb hbox hg) | ((with_reducible refine gate_callee (f := 81) rfl ?_); refine goesL_ (some 8) rfl rfl Try.func81 (by kernel_rfl) rfl #[.slice A0 l0.length c0] rfl (by (try simp only [List.map_toArray, List.map_cons, List.map_nil]); rfl) ?_; (with_reducible refine (spec_shPoints.calls k _ _ l0 false _ ?side1 ?side2 A2.out).mono ?_); (case side1 => repeat (exact (Kd.C_below HR0.out HB.out))); (case side2 => exact HC0.out); rintro e w' ⟨rfl, ⟨nd, rfl⟩⟩; refine ⟨_, rfl, ?_⟩; (try (rw [drewN_self w24]; generalize hq_ : World.drewN w24 _ = w24; have n0_ : Aside0 (w24.heap[gb745]? = some (.cells #[.int .i64 0, .slice none 0 0] 29 (0, 0))) := ⟨by rw [← hq_]; exact (by (with_reducible repeat (refine blk_drewN ?_ _)); exact BK745.out)⟩; have n1_ : Aside0 (Below w.heap.size w w24) := ⟨by rw [← hq_]; exact (by repeat ((with_reducible first | exact HB.out | apply pw_below_drewN)))⟩; clear BK745 HB hq_; have BK745 := n0_; have HB := n1_; clear n0_ n1_)); have hcz25_0 : w24.cell? ⟨gb745, 0, none⟩ = some (.int .i64 0) := (blk_cell BK745.out 0).trans rfl; have hcz25_1 : w24.cell? ⟨gb745, 1, none⟩ = some (.slice none 0 0) := (blk_cell BK745.out 1).trans rfl; have hfz25_0 := blk_frozen BK745.out 0; have hfz25_1 := blk_frozen BK745.out 1))
  refine bodyPost_ret (results_ct rfl _ _ gb745 29 #[.int .i64 0, .slice none 0 0] (0, 0) _ rfl (by (with_reducible repeat (refine blk_drew ?_)); refine blk_put (cs := #[.int .i64 0, .slice none 0 0]) ?_ 1 _ rfl; (with_reducible repeat (refine blk_drew ?_)); refine blk_put (cs := #[.int .i64 0, .slice none 0 0]) ?_ 0 _ rfl; (with_reducible repeat (refine blk_drew ?_)); exact BK745.out) Try.underlying29 rfl (by kernel_rfl)) rfl ?_
  exact ⟨_, by rfl, by exact Kd.R_nil _ _ _ _ _, by repeat ((with_reducible first | exact HB.out | refine below_set ?_ GE745.out))⟩

/-! ### slices_Equal_int_int: function 112 -/
def slices_Equal_int_int.l0 : Nat → List Int → List Int → Int → Int → Option (Bool)
 | 0, _, _, _, _ => none
 | k + 1, x0, x1, x12, x13 => if x13 < x12 then (if 0 ≤ x13 then (if x13 < (x0.length : Int) then (if x13 < (x1.length : Int) then (if (rd x0 x13) = (rd x1 x13) then (slices_Equal_int_int.l0 k x0 x1 x12 (wrap64 (x13 + 1))) else (some false)) else (none)) else (none)) else (none)) else (some true)
def slices_Equal_int_int.f (k : Nat) (l0 : List Int) (l1 : List Int) : Option (Bool) := if (l0.length : Int) = (l1.length : Int) then (slices_Equal_int_int.l0 k l0 l1 (l0.length : Int) 0) else (some false)
theorem slices_Equal_int_int.mono_l : ∀ k, (∀ y0 y1 y2 y3, LeO (slices_Equal_int_int.l0 k y0 y1 y2 y3) (slices_Equal_int_int.l0 (k + 1) y0 y1 y2 y3))
 | 0 => fun _ _ _ _ r h => by simp [slices_Equal_int_int.l0] at h
 | k + 1 => by
  have ih0 := slices_Equal_int_int.mono_l k
  ·intro y0 y1 y2 y3
   unfold slices_Equal_int_int.l0
   repeat' first
   | (with_reducible exact ih0 _ _ _ _)
   | (with_reducible exact LeO.refl _)
   | (with_reducible refine LeO.ite ?_ ?_)
theorem slices_Equal_int_int.mono : ∀ a0 a1 k, LeO (slices_Equal_int_int.f k a0 a1) (slices_Equal_int_int.f (k + 1) a0 a1) := by
 intro a0 a1 k
 have ih0 := slices_Equal_int_int.mono_l k
 unfold slices_Equal_int_int.f
 repeat' first
   | (with_reducible exact ih0 _ _ _ _)
   | (with_reducible exact LeO.refl _)
   | (with_reducible refine LeO.ite ?_ ?_)
set_option maxHeartbeats 8000000 in
set_option maxRecDepth 100000 in
theorem slices_Equal_int_int.calls (k : Nat) (A0 : Option Addr) (c0 : Nat) (l0 : List Int) (A1 : Option Addr) (c1 : Nat) (l1 : List Int) (r : Bool) (w : World) (hr0 : Kd.C (Kd.int .i64) w A0 l0.length l0) (hc0 : l0.length ≤ c0) (hr1 : Kd.C (Kd.int .i64) w A1 l1.length l1) (hc1 : l1.length ≤ c1) (h : slices_Equal_int_int.f k l0 l1 = some r) :
  Calls Try.prog 112 #[.slice A0 l0.length c0, .slice A1 l1.length c1] w fun e w' => e = .returned (.bool r) ∧ Drawn0 w w' := by
 have HR0 := Aside0.mk hr0
 have HC0 := Aside0.mk hc0
 clear hr0 hc0
 have HR1 := Aside0.mk hr1
 have HC1 := Aside0.mk hc1
 clear hr1 hc1
 have H : (if (l0.length : Int) = (l1.length : Int) then (slices_Equal_int_int.l0 k l0 l1 (l0.length : Int) 0) else (some false)) = some r := h
 clear h
 by_cases c3 : (l0.length : Int) = (l1.length : Int)
 ·rw [if_pos c3] at H
  have c3b0 : ((l0.length : Int) == (l1.length : Int)) = true := beq_iff_eq.mpr c3
  have c3b1 : ((l0.length : Int) != (l1.length : Int)) = false := bne_eq_false_iff_eq.mpr c3
  have c3b2 : (l0.length == l1.length) = true := by (simp at c3 ⊢; omega)
  clear c3
  have H' := Aside0.mk H
  clear H
  go_enter Try.func112, Try.ntmps112
  go_wp2
  repeat (go_quiet (fail); try go_wp2)
  go_loopg [13] k (fun kq v13 w' => ∃ (x13_1 : Int), v13 = .int .i64 x13_1 ∧ Aside0 (slices_Equal_int_int.l0 kq l0 l1 (l0.length : Int) x13_1 = some r) ∧ Aside0 (kq ≤ k) ∧ Drawn0 w w')
  case atStart => exact ⟨(0), (by rfl), H', ⟨Nat.le_refl _⟩, by repeat (exact Drawn0.refl _)⟩
  case round =>
   clear H'
   try clear c1
   try clear p2
   try clear c3
   try clear c3b0
   try clear c3b1
   try clear c3b2
   obtain ⟨x13_1, rfl, HA, HK1, ⟨m1, rfl⟩⟩ := hrel
   cases gk with
   | zero => exact absurd HA.out (by simp [slices_Equal_int_int.l0])
   | succ k1 =>
    have H := HA.out
    clear HA
    simp only [slices_Equal_int_int.l0] at H
    by_cases c4 : x13_1 < (l0.length : Int)
    ·rw [if_pos c4] at H
     have c4b0 : decide (x13_1 < (l0.length : Int)) = true := decide_eq_true c4
     clear c4
     by_cases c5 : 0 ≤ x13_1
     ·rw [if_pos c5] at H
      have c5b0 : decide (0 ≤ x13_1) = true := decide_eq_true c5
      clear c5
      by_cases c6 : x13_1 < (l0.length : Int)
      ·rw [if_pos c6] at H
       have c6b0 : decide (x13_1 < (l0.length : Int)) = true := decide_eq_true c6
       clear c6
       by_cases c7 : x13_1 < (l1.length : Int)
       ·rw [if_pos c7] at H
        have c7b0 : decide (x13_1 < (l1.length : Int)) = true := decide_eq_true c7
        clear c7
        by_cases c8 : (rd l0 x13_1) = (rd l1 x13_1)
        ·rw [if_pos c8] at H
         have c8b0 : ((rd l0 x13_1) == (rd l1 x13_1)) = true := beq_iff_eq.mpr c8
         have c8b1 : ((rd l0 x13_1) != (rd l1 x13_1)) = false := bne_eq_false_iff_eq.mpr c8
         clear c8
         have H' := Aside0.mk H
         clear H
         have p752 : 0 ≤ (x13_1 : Int) := of_decide_eq_true (by (with_reducible assumption))
         have q752 : x13_1 < (l0.length : Int) := of_decide_eq_true (by (with_reducible assumption))
         obtain ⟨ad752, e752, hx752_0⟩ := Kd.at_int HR0.out x13_1 p752 q752
         cases e752
         replace p752 := eq_true p752
         replace q752 := eq_true q752
         have p753 : 0 ≤ (x13_1 : Int) := of_decide_eq_true (by (with_reducible assumption))
         have q753 : x13_1 < (l1.length : Int) := of_decide_eq_true (by (with_reducible assumption))
         obtain ⟨ad753, e753, hx753_0⟩ := Kd.at_int HR1.out x13_1 p753 q753
         cases e753
         replace p753 := eq_true p753
         replace q753 := eq_true q753
         go_wp2
         repeat (go_quiet (fail); try go_wp2)
         go_roundg k1
         case measure => have := HK1.out; omega
         case rel => exact ⟨(wrap64 (x13_1 + 1)), (by rfl), H', ⟨by have := HK1.out; omega⟩, by repeat (first | exact Drawn0.refl _ | apply Drawn0.step)⟩
        ·rw [if_neg c8] at H
         have c8b0 : ((rd l0 x13_1) == (rd l1 x13_1)) = false := beq_eq_false_iff_ne.mpr c8
         have c8b1 : ((rd l0 x13_1) != (rd l1 x13_1)) = true := bne_iff_ne.mpr c8
         obtain rfl := Option.some.inj H
         have p752 : 0 ≤ (x13_1 : Int) := of_decide_eq_true (by (with_reducible assumption))
         have q752 : x13_1 < (l0.length : Int) := of_decide_eq_true (by (with_reducible assumption))
         obtain ⟨ad752, e752, hx752_0⟩ := Kd.at_int HR0.out x13_1 p752 q752
         cases e752
         replace p752 := eq_true p752
         replace q752 := eq_true q752
         have p753 : 0 ≤ (x13_1 : Int) := of_decide_eq_true (by (with_reducible assumption))
         have q753 : x13_1 < (l1.length : Int) := of_decide_eq_true (by (with_reducible assumption))
         obtain ⟨ad753, e753, hx753_0⟩ := Kd.at_int HR1.out x13_1 p753 q753
         cases e753
         replace p753 := eq_true p753
         replace q753 := eq_true q753
         go_wp2
         repeat (go_quiet (fail); try go_wp2)
         go_ret
         exact ⟨by rfl, by repeat (first | exact Drawn0.refl _ | apply Drawn0.step)⟩
       ·rw [if_neg c7] at H
        exact absurd H (by simp)
      ·rw [if_neg c6] at H
       exact absurd H (by simp)
     ·rw [if_neg c5] at H
      exact absurd H (by simp)
    ·rw [if_neg c4] at H
     have c4b0 : decide (x13_1 < (l0.length : Int)) = false := decide_eq_false c4
     clear c4
     obtain rfl := Option.some.inj H
     go_wp2
     repeat (go_quiet (fail); try go_wp2)
     go_ret
     exact ⟨by rfl, by repeat (first | exact Drawn0.refl _ | apply Drawn0.step)⟩
 ·rw [if_neg c3] at H
  have c3b0 : ((l0.length : Int) == (l1.length : Int)) = false := beq_eq_false_iff_ne.mpr c3
  have c3b1 : ((l0.length : Int) != (l1.length : Int)) = true := bne_iff_ne.mpr c3
  have c3b2 : (l0.length == l1.length) = false := by (simp at c3 ⊢; omega)
  obtain rfl := Option.some.inj H
  go_enter Try.func112, Try.ntmps112
  go_wp2
  repeat (go_quiet (fail); try go_wp2)
  go_ret
  exact ⟨by rfl, by repeat (exact Drawn0.refl _)⟩

/-! ### impl_ArePoints: function 83 -/
mutual
def impl_ArePoints.l0 : Nat → List (List Int) → List (List Int) → Int → Int → Option (Bool)
 | 0, _, _, _, _ => none
 | k + 1, x0, x11, x12, x13 => if x13 < x12 then (if 0 ≤ x13 then (if x13 < (x11.length : Int) then (if ((rd_L3 x11 x13).length : Int) = 2 then (if 0 < ((rd_L3 x11 x13).length : Int) then ((impl_within.f (rd (rd_L3 x11 x13) 0) (-20) 20).bind fun t757 => (if t757 = true then (if 1 < ((rd_L3 x11 x13).length : Int) then ((impl_within.f (rd (rd_L3 x11 x13) 1) (-20) 20).bind fun t759 => (impl_ArePoints.j1 k x0 x13 (rd_L3 x11 x13) x11 x12 x13 (!t759))) else (none)) else (impl_ArePoints.j1 k x0 x13 (rd_L3 x11 x13) x11 x12 x13 true))) else (none)) else (impl_ArePoints.j1 k x0 x13 (rd_L3 x11 x13) x11 x12 x13 true)) else (none)) else (none)) else (some true)
def impl_ArePoints.j1 : Nat → List (List Int) → Int → List Int → List (List Int) → Int → Int → Bool → Option (Bool)
 | 0, _, _, _, _, _, _, _ => none
 | k + 1, x0, x3, x4, x11, x12, x13, x34 => if x34 = true then (some false) else (if 0 ≤ x3 then (if x3 ≤ (x0.length : Int) then ((some (x0.take (x3 : Int).toNat : List (List Int))).bind fun y760 => (impl_ArePoints.l1 k x0 x4 x11 x12 x13 y760 (y760.length : Int) 0)) else (none)) else (none))
def impl_ArePoints.l1 : Nat → List (List Int) → List Int → List (List Int) → Int → Int → List (List Int) → Int → Int → Option (Bool)
 | 0, _, _, _, _, _, _, _, _ => none
 | k + 1, x0, x4, x11, x12, x13, x37, x38, x39 => if x39 < x38 then (if 0 ≤ x39 then (if x39 < (x37.length : Int) then ((slices_Equal_int_int.f k x4 (rd_L3 x37 x39)).bind fun t765 => (if t765 = true then (some false) else (impl_ArePoints.l1 k x0 x4 x11 x12 x13 x37 x38 (wrap64 (x39 + 1))))) else (none)) else (none)) else (impl_ArePoints.l0 k x0 x11 x12 (wrap64 (x13 + 1)))
end
def impl_ArePoints.f (k : Nat) (l0 : List (List Int)) : Option (Bool) := (impl_isSize.f (l0.length : Int)).bind fun t754 => (if t754 = true then (impl_ArePoints.l0 k l0 l0 (l0.length : Int) 0) else (some false))
theorem impl_ArePoints.mono_l : ∀ k, (∀ y0 y1 y2 y3, LeO (impl_ArePoints.l0 k y0 y1 y2 y3) (impl_ArePoints.l0 (k + 1) y0 y1 y2 y3)) ∧ (∀ y0 y1 y2 y3 y4 y5 y6, LeO (impl_ArePoints.j1 k y0 y1 y2 y3 y4 y5 y6) (impl_ArePoints.j1 (k + 1) y0 y1 y2 y3 y4 y5 y6)) ∧ (∀ y0 y1 y2 y3 y4 y5 y6 y7, LeO (impl_ArePoints.l1 k y0 y1 y2 y3 y4 y5 y6 y7) (impl_ArePoints.l1 (k + 1) y0 y1 y2 y3 y4 y5 y6 y7))
 | 0 => ⟨fun _ _ _ _ r h => by simp [impl_ArePoints.l0] at h, fun _ _ _ _ _ _ _ r h => by simp [impl_ArePoints.j1] at h, fun _ _ _ _ _ _ _ _ r h => by simp [impl_ArePoints.l1] at h⟩
 | k + 1 => by
  obtain ⟨ih0, ih1, ih2⟩ := impl_ArePoints.mono_l k
  refine ⟨?_, ?_, ?_⟩
  ·intro y0 y1 y2 y3
   unfold impl_ArePoints.l0
   repeat' first
   | (with_reducible exact ih1 _ _ _ _ _ _ _)
   | (with_reducible exact LeO.refl _)
   | (with_reducible refine LeO.ite ?_ ?_)
   | (with_reducible refine LeO.bind ?_ (fun _ => ?_))
  ·intro y0 y1 y2 y3 y4 y5 y6
   unfold impl_ArePoints.j1
   repeat' first
   | (with_reducible exact ih2 _ _ _ _ _ _ _ _)
   | (with_reducible exact LeO.refl _)
   | (with_reducible refine LeO.ite ?_ ?_)
   | (with_reducible refine LeO.bind ?_ (fun _ => ?_))
  ·intro y0 y1 y2 y3 y4 y5 y6 y7
   unfold impl_ArePoints.l1
   repeat' first
   | (with_reducible exact ih0 _ _ _ _)
   | (with_reducible exact ih2 _ _ _ _ _ _ _ _)
   | (with_reducible exact slices_Equal_int_int.mono _ _ _)
   | (with_reducible exact LeO.refl _)
   | (with_reducible refine LeO.ite ?_ ?_)
   | (with_reducible refine LeO.bind ?_ (fun _ => ?_))
theorem impl_ArePoints.mono : ∀ a0 k, LeO (impl_ArePoints.f k a0) (impl_ArePoints.f (k + 1) a0) := by
 intro a0 k
 obtain ⟨ih0, ih1, ih2⟩ := impl_ArePoints.mono_l k
 unfold impl_ArePoints.f
 repeat' first
   | (with_reducible exact ih0 _ _ _ _)
   | (with_reducible exact LeO.refl _)
   | (with_reducible refine LeO.ite ?_ ?_)
   | (with_reducible refine LeO.bind ?_ (fun _ => ?_))
set_option maxHeartbeats 8000000 in
set_option maxRecDepth 100000 in
theorem impl_ArePoints.calls (k : Nat) (A0 : Option Addr) (c0 : Nat) (l0 : List (List Int)) (r : Bool) (w : World) (hr0 : Kd.C (Kd.slice 3 (Kd.int .i64)) w A0 l0.length l0) (hc0 : l0.length ≤ c0) (h : impl_ArePoints.f k l0 = some r) :
  Calls Try.prog 83 #[.slice A0 l0.length c0] w fun e w' => e = .returned (.bool r) ∧ Drawn0 w w' := by
 have HR0 := Aside0.mk hr0
 have HC0 := Aside0.mk hc0
 clear hr0 hc0
 have H : ((impl_isSize.f (l0.length : Int)).bind fun t754 => (if t754 = true then (impl_ArePoints.l0 k l0 l0 (l0.length : Int) 0) else (some false))) = some r := h
 clear h
 replace H := Option.bind_eq_some_iff.mp H
 obtain ⟨t754, A20, H⟩ := H
 replace H : (if t754 = true then (impl_ArePoints.l0 k l0 l0 (l0.length : Int) 0) else (some false)) = some r := H
 have A2 := Aside0.mk A20
 clear A20
 by_cases c3 : t754 = true
 ·subst c3
  have H1 : (impl_ArePoints.l0 k l0 l0 (l0.length : Int) 0) = some r := by rw [if_pos rfl] at H; exact H
  clear H
  have H := H1
  clear H1
  have H' := Aside0.mk H
  clear H
  go_enter Try.func83, Try.ntmps83
  go_wp2_with (((with_reducible refine gate_callee (f := 55) rfl ?_); refine goesL_ (some 9) rfl rfl Try.func55 (by kernel_rfl) rfl #[.int .i64 (l0.length : Int)] rfl (by (try simp only [List.map_toArray, List.map_cons, List.map_nil]); rfl) ?_; (with_reducible refine (impl_isSize.calls (l0.length : Int) true _ A2.out).mono ?_); rintro e w' ⟨rfl, ⟨nd, rfl⟩⟩; refine ⟨_, rfl, ?_⟩))
  go_loopg [13] k (fun kq v13 w' => ∃ (x13_1 : Int), v13 = .int .i64 x13_1 ∧ Aside0 (impl_ArePoints.l0 kq l0 l0 (l0.length : Int) x13_1 = some r) ∧ Aside0 (kq ≤ k) ∧ Drawn0 w w')
  case atStart => exact ⟨(0), (by rfl), H', ⟨Nat.le_refl _⟩, by repeat (first | exact Drawn0.refl _ | apply Drawn0.step)⟩
  case round =>
   clear H'
   try clear p2
   try clear c3
   obtain ⟨x13_1, rfl, HA, HK1, ⟨m1, rfl⟩⟩ := hrel
   cases gk with
   | zero => exact absurd HA.out (by simp [impl_ArePoints.l0])
   | succ k1 =>
    have H := HA.out
    clear HA
    simp only [impl_ArePoints.l0] at H
    by_cases c4 : x13_1 < (l0.length : Int)
    ·rw [if_pos c4] at H
     have c4b0 : decide (x13_1 < (l0.length : Int)) = true := decide_eq_true c4
     clear c4
     by_cases c5 : 0 ≤ x13_1
     ·rw [if_pos c5] at H
      have c5b0 : decide (0 ≤ x13_1) = true := decide_eq_true c5
      clear c5
      by_cases c6 : x13_1 < (l0.length : Int)
      ·rw [if_pos c6] at H
       have c6b0 : decide (x13_1 < (l0.length : Int)) = true := decide_eq_true c6
       clear c6
       have HC7 := Aside0.mk H
       clear H
       have p755 : 0 ≤ (x13_1 : Int) := of_decide_eq_true (by (with_reducible assumption))
       have q755 : x13_1 < (l0.length : Int) := of_decide_eq_true (by (with_reducible assumption))
       obtain ⟨ad755, A755_0, c755_0, e755, hx755_0, hl755_0, hi755_0⟩ := at_L3 HR0.out x13_1 p755 q755
       cases e755
       have HR755_0 := Aside0.mk hi755_0
       have HC755_0 := Aside0.mk hl755_0
       clear hi755_0 hl755_0
       replace p755 := eq_true p755
       replace q755 := eq_true q755
       go_upto_region 6 with (fail)
       go_cut [34] (fun v34 wc => ∃ (kq : Nat) (x34_6 : Bool), v34 = .bool x34_6 ∧ Aside0 (impl_ArePoints.j1 kq l0 x13_1 (rd_L3 l0 x13_1) l0 (l0.length : Int) x13_1 x34_6 = some r) ∧ Aside0 (kq ≤ k1) ∧ Drawn0 w wc)
       case first =>
        have H := HC7.out
        clear HC7
        by_cases c8 : ((rd_L3 l0 x13_1).length : Int) = 2
        ·rw [if_pos c8] at H
         have c8b0 : (((rd_L3 l0 x13_1).length : Int) == 2) = true := beq_iff_eq.mpr c8
         have c8b1 : (((rd_L3 l0 x13_1).length : Int) != 2) = false := bne_eq_false_iff_eq.mpr c8
         clear c8
         (skip)
         by_cases c9 : 0 < ((rd_L3 l0 x13_1).length : Int)
         ·rw [if_pos c9] at H
          have c9b0 : decide (0 < ((rd_L3 l0 x13_1).length : Int)) = true := decide_eq_true c9
          have c9b1 : decide (0 < (rd_L3 l0 x13_1).length) = true := decide_eq_true (by omega)
          clear c9
          replace H := Option.bind_eq_some_iff.mp H
          obtain ⟨t757, A100, H⟩ := H
          replace H : (if t757 = true then (if 1 < ((rd_L3 l0 x13_1).length : Int) then ((impl_within.f (rd (rd_L3 l0 x13_1) 1) (-20) 20).bind fun t759 => (impl_ArePoints.j1 k1 l0 x13_1 (rd_L3 l0 x13_1) l0 (l0.length : Int) x13_1 (!t759))) else (none)) else (impl_ArePoints.j1 k1 l0 x13_1 (rd_L3 l0 x13_1) l0 (l0.length : Int) x13_1 true)) = some r := H
          have A10 := Aside0.mk A100
          clear A100
          by_cases c11 : t757 = true
          ·subst c11
           have H1 : (if 1 < ((rd_L3 l0 x13_1).length : Int) then ((impl_within.f (rd (rd_L3 l0 x13_1) 1) (-20) 20).bind fun t759 => (impl_ArePoints.j1 k1 l0 x13_1 (rd_L3 l0 x13_1) l0 (l0.length : Int) x13_1 (!t759))) else (none)) = some r := by rw [if_pos rfl] at H; exact H
           clear H
           have H := H1
           clear H1
           by_cases c12 : 1 < ((rd_L3 l0 x13_1).length : Int)
           ·rw [if_pos c12] at H
            have c12b0 : decide (1 < ((rd_L3 l0 x13_1).length : Int)) = true := decide_eq_true c12
            have c12b1 : decide (1 < (rd_L3 l0 x13_1).length) = true := decide_eq_true (by omega)
            clear c12
            replace H := Option.bind_eq_some_iff.mp H
            obtain ⟨t759, A130, H⟩ := H
            replace H : (impl_ArePoints.j1 k1 l0 x13_1 (rd_L3 l0 x13_1) l0 (l0.length : Int) x13_1 (!t759)) = some r := H
            have A13 := Aside0.mk A130
            clear A130
            have H' := Aside0.mk H
            clear H
            have p756 : 0 ≤ (0 : Int) := (by omega)
            have q756 : 0 < ((rd_L3 l0 x13_1).length : Int) := of_decide_eq_true (by (with_reducible assumption))
            obtain ⟨ad756, e756, hx756_0⟩ := Kd.at_int HR755_0.out 0 p756 q756
            cases e756
            have qi756 : (0 < (rd_L3 l0 x13_1).length) = True := eq_true (by omega)
            (try rw [show ((0 : Int)).toNat = 0 from rfl] at hx756_0)
            (try rw [Addr.add_zero'] at hx756_0)
            replace p756 := eq_true p756
            replace q756 := eq_true q756
            go_wp2_with (first | (go_at_call 52; (with_reducible refine (impl_within.calls (rd (rd_L3 l0 x13_1) 0) (-20) 20 true _ A10.out).mono ?_); rintro e w' ⟨rfl, ⟨nd, rfl⟩⟩; have p758 : 0 ≤ (1 : Int) := (by omega); have q758 : 1 < ((rd_L3 l0 x13_1).length : Int) := of_decide_eq_true (by (with_reducible assumption)); obtain ⟨ad758, e758, hx758_0⟩ := Kd.at_int HR755_0.out 1 p758 q758; obtain rfl : ad756 = ad758 := (by injection e758); (try simp only [show (1 : Int).toNat = 1 from rfl, Nat.reduceMul, Nat.reduceEqDiff, Go.Addr.add, ↓reduceIte] at hx758_0); have qi758 : (1 < (rd_L3 l0 x13_1).length) = True := eq_true (by omega); replace p758 := eq_true p758; replace q758 := eq_true q758) | (go_at_call 52; (with_reducible refine (impl_within.calls (rd (rd_L3 l0 x13_1) 1) (-20) 20 t759 _ A13.out).mono ?_); rintro e w' ⟨rfl, ⟨nd, rfl⟩⟩))
            go_meet
            case rel => exact ⟨_, (!t759), (by rfl), H', ⟨by have := HK1.out; omega⟩, by repeat (first | exact Drawn0.refl _ | apply Drawn0.step)⟩
           ·rw [if_neg c12] at H
            exact absurd H (by simp)
          ·replace c11 := Bool.eq_false_iff.mpr c11
           subst c11
           have H1 : (impl_ArePoints.j1 k1 l0 x13_1 (rd_L3 l0 x13_1) l0 (l0.length : Int) x13_1 true) = some r := by rw [if_neg (show ¬ (false = true) by decide)] at H; exact H
           clear H
           have H := H1
           clear H1
           have H' := Aside0.mk H
           clear H
           have p756 : 0 ≤ (0 : Int) := (by omega)
           have q756 : 0 < ((rd_L3 l0 x13_1).length : Int) := of_decide_eq_true (by (with_reducible assumption))
           obtain ⟨ad756, e756, hx756_0⟩ := Kd.at_int HR755_0.out 0 p756 q756
           cases e756
           have qi756 : (0 < (rd_L3 l0 x13_1).length) = True := eq_true (by omega)
           (try rw [show ((0 : Int)).toNat = 0 from rfl] at hx756_0)
           (try rw [Addr.add_zero'] at hx756_0)
           replace p756 := eq_true p756
           replace q756 := eq_true q756
           go_wp2_with ((go_at_call 52; (with_reducible refine (impl_within.calls (rd (rd_L3 l0 x13_1) 0) (-20) 20 false _ A10.out).mono ?_); rintro e w' ⟨rfl, ⟨nd, rfl⟩⟩))
           go_meet
           case rel => exact ⟨_, (true), (by rfl), H', ⟨by have := HK1.out; omega⟩, by repeat (first | exact Drawn0.refl _ | apply Drawn0.step)⟩
         ·rw [if_neg c9] at H
          exact absurd H (by simp)
        ·rw [if_neg c8] at H
         have c8b0 : (((rd_L3 l0 x13_1).length : Int) == 2) = false := beq_eq_false_iff_ne.mpr c8
         have c8b1 : (((rd_L3 l0 x13_1).length : Int) != 2) = true := bne_iff_ne.mpr c8
         (skip)
         have H' := Aside0.mk H
         clear H
         go_wp2
         go_meet
         case rel => exact ⟨_, (true), (by rfl), H', ⟨by have := HK1.out; omega⟩, by repeat (first | exact Drawn0.refl _ | apply Drawn0.step)⟩
       case rest =>
        clear HC7
        try clear c1
        try clear p2
        try clear c3
        try clear c4
        try clear c4b0
        try clear c5
        try clear c5b0
        try clear c6
        try clear c6b0
        try clear c7
        try clear p7
        try clear q7
        try clear hx7
        try clear qi7
        try clear c8
        try clear c8b0
        try clear c8b1
        try clear c9
        try clear c9b0
        try clear c9b1
        try clear c11
        try clear c12
        try clear c12b0
        try clear c12b1
        try clear hx755_0
        try clear hx756_0
        try clear hx758_0
        try clear p2
        try clear p755
        try clear p756
        try clear p758
        try clear q755
        try clear q756
        try clear q758
        obtain ⟨kq, x34_6, rfl, HA, HJ6, ⟨mc6, rfl⟩⟩ := hcut
        cases kq with
        | zero => exact absurd HA.out (by simp [impl_ArePoints.j1])
        | succ kj6 =>
         have H := HA.out
         clear HA
         simp only [impl_ArePoints.j1] at H
         by_cases c14 : x34_6 = true
         ·subst c14
          have H1 : (some false) = some r := by rw [if_pos rfl] at H; exact H
          clear H
          have H := H1
          clear H1
          obtain rfl := Option.some.inj H
          go_wp2
          go_ret
          exact ⟨by rfl, by repeat (first | exact Drawn0.refl _ | apply Drawn0.step)⟩
         ·replace c14 := Bool.eq_false_iff.mpr c14
          subst c14
          have H1 : (if 0 ≤ x13_1 then (if x13_1 ≤ (l0.length : Int) then ((some (l0.take (x13_1 : Int).toNat : List (List Int))).bind fun y760 => (impl_ArePoints.l1 kj6 l0 (rd_L3 l0 x13_1) l0 (l0.length : Int) x13_1 y760 (y760.length : Int) 0)) else (none)) else (none)) = some r := by rw [if_neg (show ¬ (false = true) by decide)] at H; exact H
          clear H
          have H := H1
          clear H1
          by_cases c15 : 0 ≤ x13_1
          ·rw [if_pos c15] at H
           have c15b0 := eq_true c15
           have c15b1 : decide (0 ≤ x13_1) = true := decide_eq_true c15
           clear c15
           by_cases c16 : x13_1 ≤ (l0.length : Int)
           ·rw [if_pos c16] at H
            have c16b0 := eq_true c16
            have c16b1 : decide (x13_1 ≤ (l0.length : Int)) = true := decide_eq_true c16
            clear c16
            obtain ⟨y760, hy760⟩ : ∃ y_ : List (List Int), y_ = (l0.take (x13_1 : Int).toNat) := ⟨_, rfl⟩
            replace H : (impl_ArePoints.l1 kj6 l0 (rd_L3 l0 x13_1) l0 (l0.length : Int) x13_1 y760 (y760.length : Int) 0) = some r := by (have H2_ := (Option.bind_some _ _).symm.trans H; rw [hy760]; with_reducible exact H2_)
            have Ny760 := Aside0.mk hy760
            clear hy760
            have H' := Aside0.mk H
            clear H
            have q17 : (x13_1 : Int) ≤ ((l0.length : Int) : Int) := of_decide_eq_true (by (with_reducible assumption))
            obtain ⟨i017, hi017, _, hsz17, _⟩ := info_parts info22
            have hroom17 : l0.length ≤ c0 := HC0.out
            have hC17 : Kd.C (Kd.slice 3 (Kd.int .i64)) _ (some ad755) l0.length l0 := HR0.out
            have hcut17 := cut_to (P := Try.prog) 52 22 .i64 Try.underlying52 hi017 (some ad755) l0.length c0 x13_1 (of_decide_eq_true (by (with_reducible assumption))) q17 hroom17
            have hr17 := Kd.C_take (m := (x13_1 : Int).toNat) hC17 (by omega)
            have hy17 : y760.length = (x13_1 : Int).toNat := (by rw [Ny760.out, List.length_take]; omega)
            rw [← Ny760.out] at hr17
            rw [← hy17] at hcut17
            have HR763 := Aside0.mk hr17
            have HC763 := Aside0.mk (show y760.length ≤ c0 from by omega)
            clear hr17 hC17 hroom17 hi017 hsz17
            have KY17 := Aside0.mk hy17
            clear hy17
            replace q17 := eq_true q17
            go_wp2
            go_loopg [39] kj6 (fun kq v39 w' => ∃ (x39_3 : Int), v39 = .int .i64 x39_3 ∧ Aside0 (impl_ArePoints.l1 kq l0 (rd_L3 l0 x13_1) l0 (l0.length : Int) x13_1 y760 (y760.length : Int) x39_3 = some r) ∧ Aside0 (kq ≤ kj6) ∧ Drawn0 w w')
            case atStart => exact ⟨(0), (by rfl), H', ⟨Nat.le_refl _⟩, by repeat (first | exact Drawn0.refl _ | apply Drawn0.step)⟩
            case round =>
             clear H'
             try clear c1
             try clear q1
             try clear p2
             try clear c3
             try clear c4
             try clear c4b0
             try clear c5
             try clear c5b0
             try clear c6
             try clear c6b0
             try clear c7
             try clear p7
             try clear q7
             try clear hx7
             try clear qi7
             try clear c8
             try clear c8b0
             try clear c8b1
             try clear c9
             try clear c9b0
             try clear c9b1
             try clear c11
             try clear c12
             try clear c12b0
             try clear c12b1
             try clear c14
             try clear c15
             try clear c15b0
             try clear c15b1
             try clear c16
             try clear c16b0
             try clear c16b1
             try clear q17
             try clear hx755_0
             try clear hx756_0
             try clear hx758_0
             try clear p2
             try clear p7
             try clear p755
             try clear p756
             try clear p758
             try clear q17
             try clear q7
             try clear q755
             try clear q756
             try clear q758
             obtain ⟨x39_3, rfl, HA, HK3, ⟨m3, rfl⟩⟩ := hrel
             cases gk with
             | zero => exact absurd HA.out (by simp [impl_ArePoints.l1])
             | succ k3 =>
              have H := HA.out
              clear HA
              simp only [impl_ArePoints.l1] at H
              by_cases c18 : x39_3 < (y760.length : Int)
              ·rw [if_pos c18] at H
               have c18b0 : decide (x39_3 < (y760.length : Int)) = true := decide_eq_true c18
               clear c18
               by_cases c19 : 0 ≤ x39_3
               ·rw [if_pos c19] at H
                have c19b0 : decide (0 ≤ x39_3) = true := decide_eq_true c19
                clear c19
                by_cases c20 : x39_3 < (y760.length : Int)
                ·rw [if_pos c20] at H
                 have c20b0 : decide (x39_3 < (y760.length : Int)) = true := decide_eq_true c20
                 clear c20
                 replace H := Option.bind_eq_some_iff.mp H
                 obtain ⟨t765, A210, H⟩ := H
                 replace H : (if t765 = true then (some false) else (impl_ArePoints.l1 k3 l0 (rd_L3 l0 x13_1) l0 (l0.length : Int) x13_1 y760 (y760.length : Int) (wrap64 (x39_3 + 1)))) = some r := H
                 have A21 := Aside0.mk A210
                 clear A210
                 by_cases c22 : t765 = true
                 ·subst c22
                  have H1 : (some false) = some r := by rw [if_pos rfl] at H; exact H
                  clear H
                  have H := H1
                  clear H1
                  obtain rfl := Option.some.inj H
                  have p764 : 0 ≤ (x39_3 : Int) := of_decide_eq_true (by (with_reducible assumption))
                  have q764 : x39_3 < (y760.length : Int) := of_decide_eq_true (by (with_reducible assumption))
                  obtain ⟨ad764, A764_0, c764_0, e764, hx764_0, hl764_0, hi764_0⟩ := at_L3 HR763.out x39_3 p764 q764
                  obtain rfl : ad755 = ad764 := (by injection e764)
                  have HR764_0 := Aside0.mk hi764_0
                  have HC764_0 := Aside0.mk hl764_0
                  clear hi764_0 hl764_0
                  replace p764 := eq_true p764
                  replace q764 := eq_true q764
                  go_wp2_with (((with_reducible refine gate_callee (f := 112) rfl ?_); refine goesL_ (some 45) rfl rfl Try.func112 (by kernel_rfl) rfl #[.slice A755_0 (rd_L3 l0 x13_1).length c755_0, .slice A764_0 (rd_L3 y760 x39_3).length c764_0] rfl (by (try simp only [List.map_toArray, List.map_cons, List.map_nil]); rfl) ?_; (with_reducible refine (slices_Equal_int_int.calls k3 _ _ (rd_L3 l0 x13_1) _ _ (rd_L3 y760 x39_3) true _ ?side1 ?side2 ?side3 ?side4 A21.out).mono ?_); (case side1 => repeat (exact HR755_0.out)); (case side2 => exact HC755_0.out); (case side3 => repeat (exact HR764_0.out)); (case side4 => exact HC764_0.out); rintro e w' ⟨rfl, ⟨nd, rfl⟩⟩; refine ⟨_, rfl, ?_⟩))
                  go_ret
                  exact ⟨by rfl, by repeat (first | exact Drawn0.refl _ | apply Drawn0.step)⟩
                 ·replace c22 := Bool.eq_false_iff.mpr c22
                  subst c22
                  have H1 : (impl_ArePoints.l1 k3 l0 (rd_L3 l0 x13_1) l0 (l0.length : Int) x13_1 y760 (y760.length : Int) (wrap64 (x39_3 + 1))) = some r := by rw [if_neg (show ¬ (false = true) by decide)] at H; exact H
                  clear H
                  have H := H1
                  clear H1
                  have H' := Aside0.mk H
                  clear H
                  have p764 : 0 ≤ (x39_3 : Int) := of_decide_eq_true (by (with_reducible assumption))
                  have q764 : x39_3 < (y760.length : Int) := of_decide_eq_true (by (with_reducible assumption))
                  obtain ⟨ad764, A764_0, c764_0, e764, hx764_0, hl764_0, hi764_0⟩ := at_L3 HR763.out x39_3 p764 q764
                  obtain rfl : ad755 = ad764 := (by injection e764)
                  have HR764_0 := Aside0.mk hi764_0
                  have HC764_0 := Aside0.mk hl764_0
                  clear hi764_0 hl764_0
                  replace p764 := eq_true p764
                  replace q764 := eq_true q764
                  go_wp2_with (((with_reducible refine gate_callee (f := 112) rfl ?_); refine goesL_ (some 45) rfl rfl Try.func112 (by kernel_rfl) rfl #[.slice A755_0 (rd_L3 l0 x13_1).length c755_0, .slice A764_0 (rd_L3 y760 x39_3).length c764_0] rfl (by (try simp only [List.map_toArray, List.map_cons, List.map_nil]); rfl) ?_; (with_reducible refine (slices_Equal_int_int.calls k3 _ _ (rd_L3 l0 x13_1) _ _ (rd_L3 y760 x39_3) false _ ?side1 ?side2 ?side3 ?side4 A21.out).mono ?_); (case side1 => repeat (exact HR755_0.out)); (case side2 => exact HC755_0.out); (case side3 => repeat (exact HR764_0.out)); (case side4 => exact HC764_0.out); rintro e w' ⟨rfl, ⟨nd, rfl⟩⟩; refine ⟨_, rfl, ?_⟩))
                  go_roundg k3
                  case measure => have := HK1.out; have := HJ6.out; have := HK3.out; omega
                  case rel => exact ⟨(wrap64 (x39_3 + 1)), (by rfl), H', ⟨by have := HK1.out; have := HJ6.out; have := HK3.out; omega⟩, by repeat (first | exact Drawn0.refl _ | apply Drawn0.step)⟩
                ·rw [if_neg c20] at H
                 exact absurd H (by simp)
               ·rw [if_neg c19] at H
                exact absurd H (by simp)
              ·rw [if_neg c18] at H
               have c18b0 : decide (x39_3 < (y760.length : Int)) = false := decide_eq_false c18
               clear c18
               have H' := Aside0.mk H
               clear H
               go_wp2
               go_roundg k3
               case measure => have := HK1.out; have := HJ6.out; have := HK3.out; omega
               case rel => exact ⟨(wrap64 (x13_1 + 1)), (by rfl), H', ⟨by have := HK1.out; have := HJ6.out; have := HK3.out; omega⟩, by repeat (first | exact Drawn0.refl _ | apply Drawn0.step)⟩
           ·rw [if_neg c16] at H
            exact absurd H (by simp)
          ·rw [if_neg c15] at H
           exact absurd H (by simp)
      ·rw [if_neg c6] at H
       exact absurd H (by simp)
     ·rw [if_neg c5] at H
      exact absurd H (by simp)
    ·rw [if_neg c4] at H
     have c4b0 : decide (x13_1 < (l0.length : Int)) = false := decide_eq_false c4
     clear c4
     obtain rfl := Option.some.inj H
     go_wp2
     go_ret
     exact ⟨by rfl, by repeat (first | exact Drawn0.refl _ | apply Drawn0.step)⟩
 ·replace c3 := Bool.eq_false_iff.mpr c3
  subst c3
  have H1 : (some false) = some r := by rw [if_neg (show ¬ (false = true) by decide)] at H; exact H
  clear H
  have H := H1
  clear H1
  obtain rfl := Option.some.inj H
  go_enter Try.func83, Try.ntmps83
  go_wp2_with (((with_reducible refine gate_callee (f := 55) rfl ?_); refine goesL_ (some 9) rfl rfl Try.func55 (by kernel_rfl) rfl #[.int .i64 (l0.length : Int)] rfl (by (try simp only [List.map_toArray, List.map_cons, List.map_nil]); rfl) ?_; (with_reducible refine (impl_isSize.calls (l0.length : Int) false _ A2.out).mono ?_); rintro e w' ⟨rfl, ⟨nd, rfl⟩⟩; refine ⟨_, rfl, ?_⟩))
  go_ret
  exact ⟨by rfl, by repeat (first | exact Drawn0.refl _ | apply Drawn0.step)⟩

/-! ### impl_side: function 126 -/
def impl_side.f (l0 : List Int) (l1 : List Int) (l2 : List Int) : Option (Int) := if 0 < (l1.length : Int) then (if 0 < (l0.length : Int) then (if 1 < (l2.length : Int) then (if 1 < (l0.length : Int) then (if 1 < (l1.length : Int) then (if 0 < (l2.length : Int) then (some (wrap64 ((wrap64 ((wrap64 ((rd l1 0) - (rd l0 0))) * (wrap64 ((rd l2 1) - (rd l0 1))))) - (wrap64 ((wrap64 ((rd l1 1) - (rd l0 1))) * (wrap64 ((rd l2 0) - (rd l0 0)))))))) else (none)) else (none)) else (none)) else (none)) else (none)) else (none)
set_option maxHeartbeats 8000000 in
set_option maxRecDepth 100000 in
theorem impl_side.calls (A0 : Option Addr) (c0 : Nat) (l0 : List Int) (A1 : Option Addr) (c1 : Nat) (l1 : List Int) (A2 : Option Addr) (c2 : Nat) (l2 : List Int) (r : Int) (w : World) (hr0 : Kd.C (Kd.int .i64) w A0 l0.length l0) (hc0 : l0.length ≤ c0) (hr1 : Kd.C (Kd.int .i64) w A1 l1.length l1) (hc1 : l1.length ≤ c1) (hr2 : Kd.C (Kd.int .i64) w A2 l2.length l2) (hc2 : l2.length ≤ c2) (h : impl_side.f l0 l1 l2 = some r) :
  Calls Try.prog 126 #[.slice A0 l0.length c0, .slice A1 l1.length c1, .slice A2 l2.length c2] w fun e w' => e = .returned (.int .i64 r) ∧ Drawn0 w w' := by
 have HR0 := Aside0.mk hr0
 have HC0 := Aside0.mk hc0
 clear hr0 hc0
 have HR1 := Aside0.mk hr1
 have HC1 := Aside0.mk hc1
 clear hr1 hc1
 have HR2 := Aside0.mk hr2
 have HC2 := Aside0.mk hc2
 clear hr2 hc2
 have H : (if 0 < (l1.length : Int) then (if 0 < (l0.length : Int) then (if 1 < (l2.length : Int) then (if 1 < (l0.length : Int) then (if 1 < (l1.length : Int) then (if 0 < (l2.length : Int) then (some (wrap64 ((wrap64 ((wrap64 ((rd l1 0) - (rd l0 0))) * (wrap64 ((rd l2 1) - (rd l0 1))))) - (wrap64 ((wrap64 ((rd l1 1) - (rd l0 1))) * (wrap64 ((rd l2 0) - (rd l0 0)))))))) else (none)) else (none)) else (none)) else (none)) else (none)) else (none)) = some r := h
 clear h
 by_cases c4 : 0 < (l1.length : Int)
 ·rw [if_pos c4] at H
  have c4b0 : decide (0 < (l1.length : Int)) = true := decide_eq_true c4
  have c4b1 : decide (0 < l1.length) = true := decide_eq_true (by omega)
  clear c4
  by_cases c5 : 0 < (l0.length : Int)
  ·rw [if_pos c5] at H
   have c5b0 : decide (0 < (l0.length : Int)) = true := decide_eq_true c5
   have c5b1 : decide (0 < l0.length) = true := decide_eq_true (by omega)
   clear c5
   by_cases c6 : 1 < (l2.length : Int)
   ·rw [if_pos c6] at H
    have c6b0 : decide (1 < (l2.length : Int)) = true := decide_eq_true c6
    have c6b1 : decide (1 < l2.length) = true := decide_eq_true (by omega)
    clear c6
    by_cases c7 : 1 < (l0.length : Int)
    ·rw [if_pos c7] at H
     have c7b0 : decide (1 < (l0.length : Int)) = true := decide_eq_true c7
     have c7b1 : decide (1 < l0.length) = true := decide_eq_true (by omega)
     clear c7
     by_cases c8 : 1 < (l1.length : Int)
     ·rw [if_pos c8] at H
      have c8b0 : decide (1 < (l1.length : Int)) = true := decide_eq_true c8
      have c8b1 : decide (1 < l1.length) = true := decide_eq_true (by omega)
      clear c8
      by_cases c9 : 0 < (l2.length : Int)
      ·rw [if_pos c9] at H
       have c9b0 : decide (0 < (l2.length : Int)) = true := decide_eq_true c9
       have c9b1 : decide (0 < l2.length) = true := decide_eq_true (by omega)
       clear c9
       obtain rfl := Option.some.inj H
       have p766 : 0 ≤ (0 : Int) := (by omega)
       have q766 : 0 < (l1.length : Int) := of_decide_eq_true (by (with_reducible assumption))
       obtain ⟨ad766, e766, hx766_0⟩ := Kd.at_int HR1.out 0 p766 q766
       cases e766
       have qi766 : (0 < l1.length) = True := eq_true (by omega)
       (try rw [show ((0 : Int)).toNat = 0 from rfl] at hx766_0)
       (try rw [Addr.add_zero'] at hx766_0)
       replace p766 := eq_true p766
       replace q766 := eq_true q766
       have p767 : 0 ≤ (0 : Int) := (by omega)
       have q767 : 0 < (l0.length : Int) := of_decide_eq_true (by (with_reducible assumption))
       obtain ⟨ad767, e767, hx767_0⟩ := Kd.at_int HR0.out 0 p767 q767
       cases e767
       have qi767 : (0 < l0.length) = True := eq_true (by omega)
       (try rw [show ((0 : Int)).toNat = 0 from rfl] at hx767_0)
       (try rw [Addr.add_zero'] at hx767_0)
       replace p767 := eq_true p767
       replace q767 := eq_true q767
       have p768 : 0 ≤ (1 : Int) := (by omega)
       have q768 : 1 < (l2.length : Int) := of_decide_eq_true (by (with_reducible assumption))
       obtain ⟨ad768, e768, hx768_0⟩ := Kd.at_int HR2.out 1 p768 q768
       cases e768
       (try simp only [show (1 : Int).toNat = 1 from rfl, Nat.reduceMul, Nat.reduceEqDiff, Go.Addr.add, ↓reduceIte] at hx768_0)
       have qi768 : (1 < l2.length) = True := eq_true (by omega)
       skip
       replace p768 := eq_true p768
       replace q768 := eq_true q768
       have p769 : 0 ≤ (1 : Int) := (by omega)
       have q769 : 1 < (l0.length : Int) := of_decide_eq_true (by (with_reducible assumption))
       obtain ⟨ad769, e769, hx769_0⟩ := Kd.at_int HR0.out 1 p769 q769
       obtain rfl : ad767 = ad769 := (by injection e769)
       (try simp only [show (1 : Int).toNat = 1 from rfl, Nat.reduceMul, Nat.reduceEqDiff, Go.Addr.add, ↓reduceIte] at hx769_0)
       have qi769 : (1 < l0.length) = True := eq_true (by omega)
       skip
       replace p769 := eq_true p769
       replace q769 := eq_true q769
       have p770 : 0 ≤ (1 : Int) := (by omega)
       have q770 : 1 < (l1.length : Int) := of_decide_eq_true (by (with_reducible assumption))
       obtain ⟨ad770, e770, hx770_0⟩ := Kd.at_int HR1.out 1 p770 q770
       obtain rfl : ad766 = ad770 := (by injection e770)
       (try simp only [show (1 : Int).toNat = 1 from rfl, Nat.reduceMul, Nat.reduceEqDiff, Go.Addr.add, ↓reduceIte] at hx770_0)
       have qi770 : (1 < l1.length) = True := eq_true (by omega)
       skip
       replace p770 := eq_true p770
       replace q770 := eq_true q770
       have p771 : 0 ≤ (1 : Int) := (by omega)
       have q771 : 1 < (l0.length : Int) := of_decide_eq_true (by (with_reducible assumption))
       obtain ⟨ad771, e771, hx771_0⟩ := Kd.at_int HR0.out 1 p771 q771
       obtain rfl : ad767 = ad771 := (by injection e771)
       (try simp only [show (1 : Int).toNat = 1 from rfl, Nat.reduceMul, Nat.reduceEqDiff, Go.Addr.add, ↓reduceIte] at hx771_0)
       have qi771 : (1 < l0.length) = True := eq_true (by omega)
       skip
       replace p771 := eq_true p771
       replace q771 := eq_true q771
       have p772 : 0 ≤ (0 : Int) := (by omega)
       have q772 : 0 < (l2.length : Int) := of_decide_eq_true (by (with_reducible assumption))
       obtain ⟨ad772, e772, hx772_0⟩ := Kd.at_int HR2.out 0 p772 q772
       obtain rfl : ad768 = ad772 := (by injection e772)
       have qi772 : (0 < l2.length) = True := eq_true (by omega)
       (try rw [show ((0 : Int)).toNat = 0 from rfl] at hx772_0)
       (try rw [Addr.add_zero'] at hx772_0)
       replace p772 := eq_true p772
       replace q772 := eq_true q772
       have p773 : 0 ≤ (0 : Int) := (by omega)
       have q773 : 0 < (l0.length : Int) := of_decide_eq_true (by (with_reducible assumption))
       obtain ⟨ad773, e773, hx773_0⟩ := Kd.at_int HR0.out 0 p773 q773
       obtain rfl : ad767 = ad773 := (by injection e773)
       have qi773 : (0 < l0.length) = True := eq_true (by omega)
       (try rw [show ((0 : Int)).toNat = 0 from rfl] at hx773_0)
       (try rw [Addr.add_zero'] at hx773_0)
       replace p773 := eq_true p773
       replace q773 := eq_true q773
       go_enter Try.func126, Try.ntmps126
       go_wp2
       repeat (go_quiet (fail); try go_wp2)
       go_ret
       exact ⟨by rfl, by repeat (first | exact Drawn0.refl _ | apply Drawn0.step)⟩
      ·rw [if_neg c9] at H
       exact absurd H (by simp)
     ·rw [if_neg c8] at H
      exact absurd H (by simp)
    ·rw [if_neg c7] at H
     exact absurd H (by simp)
   ·rw [if_neg c6] at H
    exact absurd H (by simp)
  ·rw [if_neg c5] at H
   exact absurd H (by simp)
 ·rw [if_neg c4] at H
  exact absurd H (by simp)

end Go.Proofs.Ytpliebmaagoahaa.P
