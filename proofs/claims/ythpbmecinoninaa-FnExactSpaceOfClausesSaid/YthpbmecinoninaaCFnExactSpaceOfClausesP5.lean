/- Functions of the program as plain Lean functions, each with a proof that the Go code computes it; written by a program of this session. Conditions: as each theorem states. -/
import Derived.Test.YthpbmecinoninaaCFnExactSpaceOfClausesP4
namespace Go.Proofs.Ythpbmecinoninaa.P
open Go.RowKit Go.Proofs.YthpbmecinoninaaW.PrintWords Go.Proofs.YthpbmecinoninaaW.PrintLast Go.Proofs.YthpbmecinoninaaW.PrintMore
attribute [local go_sem] max2_int min2_int max_two min_two max_three min_three max_four min_four   -- for this text's walks alone
set_option linter.unusedVariables false
set_option linter.unusedSimpArgs false

/-! ### impl_SpaceOfClauses: function 52 -/
mutual
def impl_SpaceOfClauses.j0 : Nat → Int → List (List Int) → Bool → Option (Int × List Int × Bool)
 | 0, _, _, _ => none
 | k + 1, x0, x1, x19 => if x19 = true then (some (0, ([] : List Int), false)) else (impl_SpaceOfClauses.l0 k x0 x1 x1 (x1.length : Int) 0)
def impl_SpaceOfClauses.l0 : Nat → Int → List (List Int) → List (List Int) → Int → Int → Option (Int × List Int × Bool)
 | 0, _, _, _, _, _ => none
 | k + 1, x0, x1, x21, x22, x23 => if x23 < x22 then (if 0 ≤ x23 then (if x23 < (x21.length : Int) then (if ((rd_L2 x21 x23).length : Int) = 2 then (if 0 < ((rd_L2 x21 x23).length : Int) then ((impl_within.f (rd (rd_L2 x21 x23) 0) 0 (wrap64 (x0 - 1))).bind fun t917 => (if t917 = true then (if 1 < ((rd_L2 x21 x23).length : Int) then ((impl_isSet.f x0 (rd (rd_L2 x21 x23) 1)).bind fun t919 => (if t919 = true then (if 0 ≤ (rd (rd_L2 x21 x23) 0) then (if (Go.bits .and .i64 (shr .i64 (rd (rd_L2 x21 x23) 1) (rd (rd_L2 x21 x23) 0)) 1) = 1 then (some (0, ([] : List Int), false)) else (impl_SpaceOfClauses.l0 k x0 x1 x21 x22 (wrap64 (x23 + 1)))) else (none)) else (some (0, ([] : List Int), false)))) else (none)) else (some (0, ([] : List Int), false)))) else (none)) else (some (0, ([] : List Int), false))) else (none)) else (none)) else ((some (List.replicate 128 false : List Bool)).bind fun y922 => (if 0 < (y922.length : Int) then (impl_SpaceOfClauses.l1 k x0 x1 (y922.set (0 : Int).toNat true) 0) else (none)))
def impl_SpaceOfClauses.l1 : Nat → Int → List (List Int) → List Bool → Int → Option (Int × List Int × Bool)
 | 0, _, _, _, _ => none
 | k + 1, x0, x1, x8, x65 => if x65 < 128 then (impl_SpaceOfClauses.l2 k x0 x1 x8 x65 x65 x1 (x1.length : Int) 0) else (if 0 ≤ x0 then (if 0 ≤ (wrap64 ((shl .i64 1 x0) - 1)) then (if (wrap64 ((shl .i64 1 x0) - 1)) < (x8.length : Int) then (if (wrap64 ((shl .i64 1 x0) - 1)) < 128 then (if (rdOf false x8 (wrap64 ((shl .i64 1 x0) - 1)) = true) then ((impl_family_space.f k x8 x0).bind fun bt927 => (some (bt927.1, bt927.2, true))) else (some (0, ([] : List Int), false))) else (none)) else (none)) else (none)) else (none))
def impl_SpaceOfClauses.l2 : Nat → Int → List (List Int) → List Bool → Int → Int → List (List Int) → Int → Int → Option (Int × List Int × Bool)
 | 0, _, _, _, _, _, _, _, _ => none
 | k + 1, x0, x1, x8, x9, x65, x68, x69, x70 => if x70 < x69 then (if 0 ≤ x70 then (if x70 < (x68.length : Int) then (if 0 ≤ x9 then (if x9 < (x8.length : Int) then (if x9 < 128 then (if rdOf false x8 x9 = true then (if 1 < ((rd_L2 x68 x70).length : Int) then ((impl_part.f (rd (rd_L2 x68 x70) 1) x9).bind fun t934 => (if t934 = true then (if 0 < ((rd_L2 x68 x70).length : Int) then (if 0 ≤ (rd (rd_L2 x68 x70) 0) then (if 0 ≤ (Go.bits .or .i64 x9 (shl .i64 1 (rd (rd_L2 x68 x70) 0))) then (if (Go.bits .or .i64 x9 (shl .i64 1 (rd (rd_L2 x68 x70) 0))) < (x8.length : Int) then (if (Go.bits .or .i64 x9 (shl .i64 1 (rd (rd_L2 x68 x70) 0))) < 128 then (impl_SpaceOfClauses.l2 k x0 x1 (x8.set ((Go.bits .or .i64 x9 (shl .i64 1 (rd (rd_L2 x68 x70) 0))) : Int).toNat true) x9 x65 x68 x69 (wrap64 (x70 + 1))) else (none)) else (none)) else (none)) else (none)) else (none)) else (impl_SpaceOfClauses.l2 k x0 x1 x8 x9 x65 x68 x69 (wrap64 (x70 + 1))))) else (none)) else (impl_SpaceOfClauses.l2 k x0 x1 x8 x9 x65 x68 x69 (wrap64 (x70 + 1)))) else (none)) else (none)) else (none)) else (none)) else (none)) else (impl_SpaceOfClauses.l1 k x0 x1 x8 (wrap64 (x65 + 1)))
end
def impl_SpaceOfClauses.f (k : Nat) (a0 : Int) (l1 : List (List Int)) : Option (Int × List Int × Bool) := (impl_isSize.f a0).bind fun t914 => (if t914 = true then (impl_SpaceOfClauses.j0 k a0 l1 (decide ((l1.length : Int) > 60))) else (impl_SpaceOfClauses.j0 k a0 l1 true))
theorem impl_SpaceOfClauses.mono_l : ∀ k, (∀ y0 y1 y2, LeO (impl_SpaceOfClauses.j0 k y0 y1 y2) (impl_SpaceOfClauses.j0 (k + 1) y0 y1 y2)) ∧ (∀ y0 y1 y2 y3 y4, LeO (impl_SpaceOfClauses.l0 k y0 y1 y2 y3 y4) (impl_SpaceOfClauses.l0 (k + 1) y0 y1 y2 y3 y4)) ∧ (∀ y0 y1 y2 y3, LeO (impl_SpaceOfClauses.l1 k y0 y1 y2 y3) (impl_SpaceOfClauses.l1 (k + 1) y0 y1 y2 y3)) ∧ (∀ y0 y1 y2 y3 y4 y5 y6 y7, LeO (impl_SpaceOfClauses.l2 k y0 y1 y2 y3 y4 y5 y6 y7) (impl_SpaceOfClauses.l2 (k + 1) y0 y1 y2 y3 y4 y5 y6 y7))
 | 0 => ⟨fun _ _ _ r h => by simp [impl_SpaceOfClauses.j0] at h, fun _ _ _ _ _ r h => by simp [impl_SpaceOfClauses.l0] at h, fun _ _ _ _ r h => by simp [impl_SpaceOfClauses.l1] at h, fun _ _ _ _ _ _ _ _ r h => by simp [impl_SpaceOfClauses.l2] at h⟩
 | k + 1 => by
  obtain ⟨ih0, ih1, ih2, ih3⟩ := impl_SpaceOfClauses.mono_l k
  refine ⟨?_, ?_, ?_, ?_⟩
  ·intro y0 y1 y2
   unfold impl_SpaceOfClauses.j0
   repeat' first
   | (with_reducible exact ih1 _ _ _ _ _)
   | (with_reducible exact LeO.refl _)
   | (with_reducible refine LeO.ite ?_ ?_)
  ·intro y0 y1 y2 y3 y4
   unfold impl_SpaceOfClauses.l0
   repeat' first
   | (with_reducible exact ih1 _ _ _ _ _)
   | (with_reducible exact ih2 _ _ _ _)
   | (with_reducible exact LeO.refl _)
   | (with_reducible refine LeO.ite ?_ ?_)
   | (with_reducible refine LeO.bind ?_ (fun _ => ?_))
  ·intro y0 y1 y2 y3
   unfold impl_SpaceOfClauses.l1
   repeat' first
   | (with_reducible exact ih3 _ _ _ _ _ _ _ _)
   | (with_reducible exact impl_family_space.mono _ _ _)
   | (with_reducible exact LeO.refl _)
   | (with_reducible refine LeO.ite ?_ ?_)
   | (with_reducible refine LeO.bind ?_ (fun _ => ?_))
  ·intro y0 y1 y2 y3 y4 y5 y6 y7
   unfold impl_SpaceOfClauses.l2
   repeat' first
   | (with_reducible exact ih2 _ _ _ _)
   | (with_reducible exact ih3 _ _ _ _ _ _ _ _)
   | (with_reducible exact LeO.refl _)
   | (with_reducible refine LeO.ite ?_ ?_)
   | (with_reducible refine LeO.bind ?_ (fun _ => ?_))
theorem impl_SpaceOfClauses.mono : ∀ a0 a1 k, LeO (impl_SpaceOfClauses.f k a0 a1) (impl_SpaceOfClauses.f (k + 1) a0 a1) := by
 intro a0 a1 k
 obtain ⟨ih0, ih1, ih2, ih3⟩ := impl_SpaceOfClauses.mono_l k
 unfold impl_SpaceOfClauses.f
 repeat' first
   | (with_reducible exact ih0 _ _ _)
   | (with_reducible exact LeO.refl _)
   | (with_reducible refine LeO.ite ?_ ?_)
   | (with_reducible refine LeO.bind ?_ (fun _ => ?_))
def impl_SpaceOfClauses.T6 : Bool × List (List Nat × List Nat) := (true, [([], []), ([0], [0]), ([1], [1]), ([2], [2]), ([3], [3]), ([4, 3], [3, 4]), ([5, 3], [3, 5]), ([3], [3]), ([7, 3], [3, 7]), ([6, 8, 3, 3], [3, 6, 8]), ([9, 3], [3, 9]), ([3, 10], [3, 10]), ([11, 9], [11]), ([12], [12]), ([12], [12]), ([14, 12], [12, 14]), ([15, 12], [12, 15]), ([13, 16, 12, 12], [12, 13, 16]), ([17, 12], [12, 17]), ([12, 18], [12, 18]), ([19, 17], [19]), ([20], [20]), ([21, 20], [20, 21]), ([22, 20], [20, 22]), ([20], [20]), ([24, 20], [20, 24]), ([25, 20], [20, 25]), ([23, 26, 20], [20, 23, 26]), ([27, 20], [20, 27]), ([28, 20], [20, 28]), ([20, 29], [20, 29])])
def impl_SpaceOfClauses.B6 : List Nat := [0, 1, 3, 7, 15, 31, 63, 15, 143, 511, 1023, 2047, 4095, 8191, 8191, 24575, 57343, 131071, 262143, 524287, 1048575, 2097151, 4194303, 8388607, 2097151, 18874367, 52428799, 134217727, 268435455, 536870911, 1073741823]
theorem impl_SpaceOfClauses.tab6 : rtab .any (opsOf Try.f52 6) = impl_SpaceOfClauses.T6 := by kernel_rfl
theorem impl_SpaceOfClauses.bits6 : waitsOk impl_SpaceOfClauses.T6.2 impl_SpaceOfClauses.B6 = true := by kernel_rfl
def impl_SpaceOfClauses.T18 : Bool × List (List Nat × List Nat) := (true, [([], []), ([], []), ([], []), ([2], [2]), ([3], [3]), ([4], [4]), ([1, 5], [1, 5]), ([0], [0]), ([7, 6, 0, 1, 2, 3, 4, 5, 6], [6, 7]), ([8, 0, 1, 2, 3, 4, 5, 6], [8])])
def impl_SpaceOfClauses.B18 : List Nat := [0, 0, 0, 4, 12, 28, 62, 1, 255, 511]
theorem impl_SpaceOfClauses.tab18 : rtab .any (opsOf Try.f52 18) = impl_SpaceOfClauses.T18 := by kernel_rfl
theorem impl_SpaceOfClauses.bits18 : waitsOk impl_SpaceOfClauses.T18.2 impl_SpaceOfClauses.B18 = true := by kernel_rfl
def impl_SpaceOfClauses.T21 : Bool × List (List Nat × List Nat) := (true, [([], []), ([], []), ([1], [1]), ([2], [2]), ([0], [0]), ([4, 3], [3, 4]), ([5], [5]), ([6], [6])])
def impl_SpaceOfClauses.B21 : List Nat := [0, 0, 2, 6, 1, 31, 63, 127]
theorem impl_SpaceOfClauses.tab21 : rtab .any (opsOf Try.f52 21) = impl_SpaceOfClauses.T21 := by kernel_rfl
theorem impl_SpaceOfClauses.bits21 : waitsOk impl_SpaceOfClauses.T21.2 impl_SpaceOfClauses.B21 = true := by kernel_rfl
set_option maxHeartbeats 8000000 in
set_option maxRecDepth 100000 in
theorem impl_SpaceOfClauses.calls (k : Nat) (a0 : Int) (A1 : Option Addr) (c1 : Nat) (l1 : List (List Int)) (r1 : Int) (r2 : List Int) (r3 : Bool) (w : World) (hr1 : Kd.C (Kd.slice 3 (Kd.int .i64)) w A1 l1.length l1) (hc1 : l1.length ≤ c1) (h : impl_SpaceOfClauses.f k a0 l1 = some (r1, r2, r3)) :
  Calls Try.prog 52 #[.int .i64 a0, .slice A1 l1.length c1] w fun e w' => ∃ v1_ : Value, e = .returned (.tuple #[.agg #[.int .i64 r1, v1_], .bool r3]) ∧ Kd.R (Kd.int .i64) 3 w' w.heap.size (fun _ => True) v1_ r2 ∧ Below w.heap.size w w' := by
 have hu37 := Try.underlying37
 have HR1 := Aside0.mk hr1
 have HC1 := Aside0.mk hc1
 clear hr1 hc1
 have HB := Aside0.mk (Below.refl w.heap.size w)
 have H : ((impl_isSize.f a0).bind fun t914 => (if t914 = true then (impl_SpaceOfClauses.j0 k a0 l1 (decide ((l1.length : Int) > 60))) else (impl_SpaceOfClauses.j0 k a0 l1 true))) = some (r1, r2, r3) := h
 clear h
 have HC3 := Aside0.mk H
 clear H
 go_enter Try.func52, Try.ntmps52
 go_upto_region 1 with (((with_reducible refine gate_dst (N := 4) rfl ?_); (try (refine gate_guard (by rfl) ?_; dsimp only)); refine box_event ?hg (N := 4) ?hd (cs := #[.int .i64 0, .slice none 0 0]) (t := 37) ?hr ?_; (case hd => rfl); (case hg => rfl); (case hr => (go_simp; done)); intro gb913 hg w4 hbox hb; have n0_ := Aside0.mk (below_step (by repeat ((with_reducible exact HB.out))) hb); have n1_ := Aside0.mk (hbox); have n2_ := Aside0.mk ((by rw [hg]; exact (below_size (by repeat ((with_reducible exact HB.out)))) : w.heap.size ≤ gb913)); have n3_ := Aside0.mk ((by rw [hg]; exact (below_size (by repeat ((with_reducible exact HB.out)))) : w.heap.size ≤ gb913)); clear HB; have HB := n0_; have BK913 := n1_; have GW913 := n2_; have GE913 := n3_; clear n0_ n1_ n2_ n3_; clear hb hbox hg))
 skip
 go_cut [19] (fun v19 wc => ∃ (kq : Nat) (x19_2 : Bool), v19 = .bool x19_2 ∧ Aside0 (impl_SpaceOfClauses.j0 kq a0 l1 x19_2 = some (r1, r2, r3)) ∧ Aside0 (kq ≤ k) ∧ Aside0 (wc.heap[gb913]? = some (.cells #[.int .i64 0, (.slice none 0 0)] 37 (0, 0))) ∧ Aside0 (Below w.heap.size w wc))
 case first =>
  have H := HC3.out
  clear HC3
  replace H := Option.bind_eq_some_iff.mp H
  obtain ⟨t914, A50, H⟩ := H
  replace H : (if t914 = true then (impl_SpaceOfClauses.j0 k a0 l1 (decide ((l1.length : Int) > 60))) else (impl_SpaceOfClauses.j0 k a0 l1 true)) = some (r1, r2, r3) := H
  have A5 := Aside0.mk A50
  clear A50
  by_cases c6 : t914 = true
  ·subst c6
   have H1 : (impl_SpaceOfClauses.j0 k a0 l1 (decide ((l1.length : Int) > 60))) = some (r1, r2, r3) := by rw [if_pos rfl] at H; exact H
   clear H
   have H := H1
   clear H1
   have H' := Aside0.mk H
   clear H
   go_wp2_with (((with_reducible refine gate_callee (f := 84) rfl ?_); refine goesL_ (some 13) rfl rfl Try.func84 (by kernel_rfl) rfl #[.int .i64 a0] rfl (by (try simp only [List.map_toArray, List.map_cons, List.map_nil]); rfl) ?_; (with_reducible refine (impl_isSize.calls a0 true _ A5.out).mono ?_); rintro e w' ⟨rfl, ⟨nd, rfl⟩⟩; refine ⟨_, rfl, ?_⟩))
   go_meet
   case rel => exact ⟨_, (decide ((l1.length : Int) > 60)), (by rfl), H', ⟨by omega⟩, ⟨by (with_reducible repeat (refine blk_drewN ?_ _)); exact BK913.out⟩, ⟨by repeat ((with_reducible first | exact HB.out | apply pw_below_drewN))⟩⟩
  ·replace c6 := Bool.eq_false_iff.mpr c6
   subst c6
   have H1 : (impl_SpaceOfClauses.j0 k a0 l1 true) = some (r1, r2, r3) := by rw [if_neg (show ¬ (false = true) by decide)] at H; exact H
   clear H
   have H := H1
   clear H1
   have H' := Aside0.mk H
   clear H
   go_wp2_with (((with_reducible refine gate_callee (f := 84) rfl ?_); refine goesL_ (some 13) rfl rfl Try.func84 (by kernel_rfl) rfl #[.int .i64 a0] rfl (by (try simp only [List.map_toArray, List.map_cons, List.map_nil]); rfl) ?_; (with_reducible refine (impl_isSize.calls a0 false _ A5.out).mono ?_); rintro e w' ⟨rfl, ⟨nd, rfl⟩⟩; refine ⟨_, rfl, ?_⟩))
   go_meet
   case rel => exact ⟨_, (true), (by rfl), H', ⟨by omega⟩, ⟨by (with_reducible repeat (refine blk_drewN ?_ _)); exact BK913.out⟩, ⟨by repeat ((with_reducible first | exact HB.out | apply pw_below_drewN))⟩⟩
 case rest =>
  clear HC3
  try clear c1
  try clear p2
  try clear c5
  try clear c6
  obtain ⟨kq, x19_2, rfl, HA, HJ2, BK913, HB⟩ := hcut
  cases kq with
  | zero => exact absurd HA.out (by simp [impl_SpaceOfClauses.j0])
  | succ kj2 =>
   have H := HA.out
   clear HA
   simp only [impl_SpaceOfClauses.j0] at H
   by_cases c7 : x19_2 = true
   ·subst c7
    have H1 : (some (0, ([] : List Int), false)) = some (r1, r2, r3) := by rw [if_pos rfl] at H; exact H
    clear H
    have H := H1
    clear H1
    simp only [Option.some.injEq, Prod.mk.injEq] at H
    obtain ⟨rfl, rfl, rfl⟩ := H
    have hcz8_0 : wc.cell? ⟨gb913, 0, none⟩ = some (.int .i64 0) := (blk_cell BK913.out 0).trans rfl
    have hcz8_1 : wc.cell? ⟨gb913, 1, none⟩ = some (.slice none 0 0) := (blk_cell BK913.out 1).trans rfl
    have hfz8_0 := blk_frozen BK913.out 0
    have hfz8_1 := blk_frozen BK913.out 1
    go_wp2
    refine bodyPost_ret (results_ct rfl _ _ gb913 37 #[.int .i64 0, .slice none 0 0] (0, 0) _ rfl (by (with_reducible repeat (refine blk_drew ?_)); refine blk_put (cs := #[.int .i64 0, .slice none 0 0]) ?_ 1 _ rfl; (with_reducible repeat (refine blk_drew ?_)); refine blk_put (cs := #[.int .i64 0, .slice none 0 0]) ?_ 0 _ rfl; (with_reducible repeat (refine blk_drew ?_)); exact BK913.out) Try.underlying37 rfl (by kernel_rfl)) rfl ?_
    exact ⟨_, by rfl, by exact Kd.R_nil _ _ _ _ _, by repeat ((with_reducible first | exact HB.out | refine below_set ?_ GE913.out))⟩
   ·replace c7 := Bool.eq_false_iff.mpr c7
    subst c7
    have H1 : (impl_SpaceOfClauses.l0 kj2 a0 l1 l1 (l1.length : Int) 0) = some (r1, r2, r3) := by rw [if_neg (show ¬ (false = true) by decide)] at H; exact H
    clear H
    have H := H1
    clear H1
    have H' := Aside0.mk H
    clear H
    go_wp2
    go_loopg [23] kj2 (fun kq v23 w' => ∃ (x23_2 : Int) (x914000_2 : Int), v23 = .int .i64 x23_2 ∧ Aside0 (impl_SpaceOfClauses.l0 kq a0 l1 l1 (l1.length : Int) x23_2 = some (r1, r2, r3)) ∧ Aside0 (kq ≤ kj2) ∧ Aside0 (w'.heap[gb913]? = some (.cells #[.int .i64 x914000_2, (.slice none 0 0)] 37 (0, 0))) ∧ Aside0 (Below w.heap.size w w'))
    case atStart => exact ⟨(0), (0), (by rfl), H', ⟨Nat.le_refl _⟩, ⟨by (with_reducible repeat (refine blk_drew ?_)); exact BK913.out⟩, ⟨by repeat ((with_reducible exact HB.out))⟩⟩
    case round =>
     clear H'
     try clear c1
     try clear p2
     try clear c5
     try clear c6
     try clear c7
     try clear c8
     try clear hcz8_0
     try clear hcz8_1
     try clear hfz8_0
     try clear hfz8_1
     try clear p2
     obtain ⟨x23_2, x914000_2, rfl, HA, HK2, BK913, HB⟩ := hrel
     cases gk with
     | zero => exact absurd HA.out (by simp [impl_SpaceOfClauses.l0])
     | succ k2 =>
      have H := HA.out
      clear HA
      simp only [impl_SpaceOfClauses.l0] at H
      by_cases c9 : x23_2 < (l1.length : Int)
      ·rw [if_pos c9] at H
       have c9b0 : decide (x23_2 < (l1.length : Int)) = true := decide_eq_true c9
       clear c9
       by_cases c10 : 0 ≤ x23_2
       ·rw [if_pos c10] at H
        have c10b0 : decide (0 ≤ x23_2) = true := decide_eq_true c10
        clear c10
        by_cases c11 : x23_2 < (l1.length : Int)
        ·rw [if_pos c11] at H
         have c11b0 : decide (x23_2 < (l1.length : Int)) = true := decide_eq_true c11
         clear c11
         by_cases c12 : ((rd_L2 l1 x23_2).length : Int) = 2
         ·rw [if_pos c12] at H
          have c12b0 : (((rd_L2 l1 x23_2).length : Int) == 2) = true := beq_iff_eq.mpr c12
          have c12b1 : (((rd_L2 l1 x23_2).length : Int) != 2) = false := bne_eq_false_iff_eq.mpr c12
          clear c12
          by_cases c13 : 0 < ((rd_L2 l1 x23_2).length : Int)
          ·rw [if_pos c13] at H
           have c13b0 : decide (0 < ((rd_L2 l1 x23_2).length : Int)) = true := decide_eq_true c13
           have c13b1 : decide (0 < (rd_L2 l1 x23_2).length) = true := decide_eq_true (by omega)
           clear c13
           replace H := Option.bind_eq_some_iff.mp H
           obtain ⟨t917, A140, H⟩ := H
           replace H : (if t917 = true then (if 1 < ((rd_L2 l1 x23_2).length : Int) then ((impl_isSet.f a0 (rd (rd_L2 l1 x23_2) 1)).bind fun t919 => (if t919 = true then (if 0 ≤ (rd (rd_L2 l1 x23_2) 0) then (if (Go.bits .and .i64 (shr .i64 (rd (rd_L2 l1 x23_2) 1) (rd (rd_L2 l1 x23_2) 0)) 1) = 1 then (some (0, ([] : List Int), false)) else (impl_SpaceOfClauses.l0 k2 a0 l1 l1 (l1.length : Int) (wrap64 (x23_2 + 1)))) else (none)) else (some (0, ([] : List Int), false)))) else (none)) else (some (0, ([] : List Int), false))) = some (r1, r2, r3) := H
           have A14 := Aside0.mk A140
           clear A140
           by_cases c15 : t917 = true
           ·subst c15
            have H1 : (if 1 < ((rd_L2 l1 x23_2).length : Int) then ((impl_isSet.f a0 (rd (rd_L2 l1 x23_2) 1)).bind fun t919 => (if t919 = true then (if 0 ≤ (rd (rd_L2 l1 x23_2) 0) then (if (Go.bits .and .i64 (shr .i64 (rd (rd_L2 l1 x23_2) 1) (rd (rd_L2 l1 x23_2) 0)) 1) = 1 then (some (0, ([] : List Int), false)) else (impl_SpaceOfClauses.l0 k2 a0 l1 l1 (l1.length : Int) (wrap64 (x23_2 + 1)))) else (none)) else (some (0, ([] : List Int), false)))) else (none)) = some (r1, r2, r3) := by rw [if_pos rfl] at H; exact H
            clear H
            have H := H1
            clear H1
            by_cases c16 : 1 < ((rd_L2 l1 x23_2).length : Int)
            ·rw [if_pos c16] at H
             have c16b0 : decide (1 < ((rd_L2 l1 x23_2).length : Int)) = true := decide_eq_true c16
             have c16b1 : decide (1 < (rd_L2 l1 x23_2).length) = true := decide_eq_true (by omega)
             clear c16
             replace H := Option.bind_eq_some_iff.mp H
             obtain ⟨t919, A170, H⟩ := H
             replace H : (if t919 = true then (if 0 ≤ (rd (rd_L2 l1 x23_2) 0) then (if (Go.bits .and .i64 (shr .i64 (rd (rd_L2 l1 x23_2) 1) (rd (rd_L2 l1 x23_2) 0)) 1) = 1 then (some (0, ([] : List Int), false)) else (impl_SpaceOfClauses.l0 k2 a0 l1 l1 (l1.length : Int) (wrap64 (x23_2 + 1)))) else (none)) else (some (0, ([] : List Int), false))) = some (r1, r2, r3) := H
             have A17 := Aside0.mk A170
             clear A170
             by_cases c18 : t919 = true
             ·subst c18
              have H1 : (if 0 ≤ (rd (rd_L2 l1 x23_2) 0) then (if (Go.bits .and .i64 (shr .i64 (rd (rd_L2 l1 x23_2) 1) (rd (rd_L2 l1 x23_2) 0)) 1) = 1 then (some (0, ([] : List Int), false)) else (impl_SpaceOfClauses.l0 k2 a0 l1 l1 (l1.length : Int) (wrap64 (x23_2 + 1)))) else (none)) = some (r1, r2, r3) := by rw [if_pos rfl] at H; exact H
              clear H
              have H := H1
              clear H1
              by_cases c19 : 0 ≤ (rd (rd_L2 l1 x23_2) 0)
              ·rw [if_pos c19] at H
               have c19b0 := eq_true c19
               have c19b1 : decide (0 ≤ (rd (rd_L2 l1 x23_2) 0)) = true := decide_eq_true c19
               clear c19
               obtain ⟨ji20, hji20⟩ : ∃ j_ : Int, (shr .i64 (rd (rd_L2 l1 x23_2) 1) (rd (rd_L2 l1 x23_2) 0)) = j_ := ⟨_, rfl⟩
               replace H : (if (Go.bits .and .i64 (ji20) 1) = 1 then (some (0, ([] : List Int), false)) else (impl_SpaceOfClauses.l0 k2 a0 l1 l1 (l1.length : Int) (wrap64 (x23_2 + 1)))) = some (r1, r2, r3) := by (rw [hji20] at H; exact H)
               skip
               skip
               have hji20_ : ((rd (rd_L2 l1 x23_2) 1) / 2 ^ min (rd (rd_L2 l1 x23_2) 0).toNat 64) = ji20 := hji20
               have hji20z : (rd (rd_L2 l1 x23_2) 0) ≤ 64 → ((rd (rd_L2 l1 x23_2) 1) / 2 ^ (rd (rd_L2 l1 x23_2) 0).toNat) = ji20 := shr_small hji20
               by_cases c21 : (Go.bits .and .i64 (ji20) 1) = 1
               ·rw [if_pos c21] at H
                have c21b0 : ((Go.bits .and .i64 (ji20) 1) == 1) = true := beq_iff_eq.mpr c21
                have c21b1 : ((Go.bits .and .i64 (ji20) 1) != 1) = false := bne_eq_false_iff_eq.mpr c21
                clear c21
                simp only [Option.some.injEq, Prod.mk.injEq] at H
                obtain ⟨rfl, rfl, rfl⟩ := H
                have p915 : 0 ≤ (x23_2 : Int) := of_decide_eq_true (by (with_reducible assumption))
                have q915 : x23_2 < (l1.length : Int) := of_decide_eq_true (by (with_reducible assumption))
                obtain ⟨ad915, A915_0, c915_0, e915, hx915_0, hl915_0, hi915_0⟩ := at_L2 HR1.out x23_2 p915 q915
                cases e915
                replace hx915_0 := (HB.out.cell (World.block_lt_of_cell? w _ hx915_0)).trans hx915_0
                have HR915_0 := Aside0.mk hi915_0
                have HC915_0 := Aside0.mk hl915_0
                clear hi915_0 hl915_0
                replace p915 := eq_true p915
                replace q915 := eq_true q915
                try go_wp2
                have n0_ := Aside0.mk (blk_drew BK913.out)
                have n1_ := Aside0.mk (below_drew1 HB.out)
                clear BK913
                clear HB
                have BK913 := n0_
                have HB := n1_
                clear n0_ n1_
                have p916 : 0 ≤ (0 : Int) := (by omega)
                have q916 : 0 < ((rd_L2 l1 x23_2).length : Int) := of_decide_eq_true (by (with_reducible assumption))
                obtain ⟨ad916, e916, hx916_0⟩ := Kd.at_int HR915_0.out 0 p916 q916
                have hw916_0 := hx916_0
                (try rw [show ((0 : Int)).toNat = 0 from rfl] at hw916_0)
                skip
                (try rw [Addr.add_zero'] at hw916_0)
                cases e916
                have qi916 : (0 < (rd_L2 l1 x23_2).length) = True := eq_true (by omega)
                (try rw [show ((0 : Int)).toNat = 0 from rfl] at hx916_0)
                (try rw [Addr.add_zero'] at hx916_0)
                replace hx916_0 := (HB.out.cell (World.block_lt_of_cell? w _ hx916_0)).trans hx916_0
                replace p916 := eq_true p916
                replace q916 := eq_true q916
                have p918 : 0 ≤ (1 : Int) := (by omega)
                have q918 : 1 < ((rd_L2 l1 x23_2).length : Int) := of_decide_eq_true (by (with_reducible assumption))
                obtain ⟨ad918, e918, hx918_0⟩ := Kd.at_int HR915_0.out 1 p918 q918
                have hw918_0 := hx918_0
                (try rw [show ((1 : Int)).toNat = 1 from rfl] at hw918_0)
                skip
                (try simp only [Nat.reduceMul, Nat.reduceEqDiff, Go.Addr.add, ↓reduceIte] at hw918_0)
                obtain rfl : ad916 = ad918 := (by injection e918)
                (try simp only [show (1 : Int).toNat = 1 from rfl, Nat.reduceMul, Nat.reduceEqDiff, Go.Addr.add, ↓reduceIte] at hx918_0)
                have qi918 : (1 < (rd_L2 l1 x23_2).length) = True := eq_true (by omega)
                skip
                replace hx918_0 := (HB.out.cell (World.block_lt_of_cell? w _ hx918_0)).trans hx918_0
                replace p918 := eq_true p918
                replace q918 := eq_true q918
                have p920 : 0 ≤ (1 : Int) := (by omega)
                have q920 : 1 < ((rd_L2 l1 x23_2).length : Int) := of_decide_eq_true (by (with_reducible assumption))
                obtain ⟨ad920, e920, hx920_0⟩ := Kd.at_int HR915_0.out 1 p920 q920
                have hw920_0 := hx920_0
                (try rw [show ((1 : Int)).toNat = 1 from rfl] at hw920_0)
                skip
                (try simp only [Nat.reduceMul, Nat.reduceEqDiff, Go.Addr.add, ↓reduceIte] at hw920_0)
                obtain rfl : ad916 = ad920 := (by injection e920)
                (try simp only [show (1 : Int).toNat = 1 from rfl, Nat.reduceMul, Nat.reduceEqDiff, Go.Addr.add, ↓reduceIte] at hx920_0)
                have qi920 : (1 < (rd_L2 l1 x23_2).length) = True := eq_true (by omega)
                skip
                replace hx920_0 := (HB.out.cell (World.block_lt_of_cell? w _ hx920_0)).trans hx920_0
                replace p920 := eq_true p920
                replace q920 := eq_true q920
                have p921 : 0 ≤ (0 : Int) := (by omega)
                have q921 : 0 < ((rd_L2 l1 x23_2).length : Int) := of_decide_eq_true (by (with_reducible assumption))
                obtain ⟨ad921, e921, hx921_0⟩ := Kd.at_int HR915_0.out 0 p921 q921
                have hw921_0 := hx921_0
                (try rw [show ((0 : Int)).toNat = 0 from rfl] at hw921_0)
                skip
                (try rw [Addr.add_zero'] at hw921_0)
                obtain rfl : ad916 = ad921 := (by injection e921)
                have qi921 : (0 < (rd_L2 l1 x23_2).length) = True := eq_true (by omega)
                (try rw [show ((0 : Int)).toNat = 0 from rfl] at hx921_0)
                (try rw [Addr.add_zero'] at hx921_0)
                replace hx921_0 := (HB.out.cell (World.block_lt_of_cell? w _ hx921_0)).trans hx921_0
                replace p921 := eq_true p921
                replace q921 := eq_true q921
                refine start_ (n := 31) (S := fun w' => w'.cell? ad916 = some (.int .i64 (rd (rd_L2 l1 x23_2) 0)) ∧ w'.cell? ⟨ad916.block, ad916.off + 1, none⟩ = some (.int .i64 (rd (rd_L2 l1 x23_2) 1)) ∧ w'.cell? ⟨ad916.block, ad916.off + 1, none⟩ = some (.int .i64 (rd (rd_L2 l1 x23_2) 1)) ∧ w'.cell? ad916 = some (.int .i64 (rd (rd_L2 l1 x23_2) 0))) (ds := []) #[false, false, false, false, false, false, false, false, false, false, false, false, false, false, false, false, false, false, false, false, false, false, false, false, false, false, false, false, false, false, false] (by kernel_rfl) rfl rfl ⟨((HB.out.cell (World.block_lt_of_cell? w _ hw916_0)).trans hw916_0), ((HB.out.cell (World.block_lt_of_cell? w _ hw918_0)).trans hw918_0), ((HB.out.cell (World.block_lt_of_cell? w _ hw920_0)).trans hw920_0), ((HB.out.cell (World.block_lt_of_cell? w _ hw921_0)).trans hw921_0)⟩ (fun hHeld => ?_); refine with_tabW impl_SpaceOfClauses.tab6 impl_SpaceOfClauses.bits6 (fun HT_ HW_ => ?_)
                generalize wr.drew = w22 at BK913 HB hx916_0 hx918_0 hx920_0 hx921_0 hHeld ⊢
                refine pure_ (i := 0) (N := some 27) (v := ?_) (a' := ?_) #[true, false, false, false, false, false, false, false, false, false, false, false, false, false, false, false, false, false, false, false, false, false, false, false, false, false, false, false, false, false, false] rfl rfl (any_of HT_.out (by kernel_rfl)) (fun _ _ _ h => h) (Or.inl ⟨by rfl, ?_⟩) ?_ ?_
                rotate_left
                ·intro w'
                 go_simp
                 with_reducible rfl
                rotate_left
                ·simp only [Act.put, List.setIfInBounds_toArray, List.set_cons_zero, List.set_cons_succ, i64_w, i32_w]
                 rfl
                refine pure_ (i := 1) (N := some 28) (v := ?_) (a' := ?_) #[true, true, false, false, false, false, false, false, false, false, false, false, false, false, false, false, false, false, false, false, false, false, false, false, false, false, false, false, false, false, false] rfl rfl (any_of HT_.out (by kernel_rfl)) (fun _ _ _ h => h) (Or.inl ⟨by rfl, ?_⟩) ?_ ?_
                rotate_left
                ·intro w'
                 go_simp
                 with_reducible rfl
                rotate_left
                ·simp only [Act.put, List.setIfInBounds_toArray, List.set_cons_zero, List.set_cons_succ, i64_w, i32_w]
                 rfl
                refine pure_ (i := 2) (N := some 29) (v := ?_) (a' := ?_) #[true, true, true, false, false, false, false, false, false, false, false, false, false, false, false, false, false, false, false, false, false, false, false, false, false, false, false, false, false, false, false] rfl rfl (any_of HT_.out (by kernel_rfl)) (fun _ _ _ h => h) (Or.inl ⟨by rfl, ?_⟩) ?_ ?_
                rotate_left
                ·intro w'
                 go_simp
                 with_reducible rfl
                rotate_left
                ·simp only [Act.put, List.setIfInBounds_toArray, List.set_cons_zero, List.set_cons_succ, i64_w, i32_w]
                 rfl
                refine pure_ (i := 3) (N := some 30) (v := ?_) (a' := ?_) #[true, true, true, true, false, false, false, false, false, false, false, false, false, false, false, false, false, false, false, false, false, false, false, false, false, false, false, false, false, false, false] rfl rfl (any_of HT_.out (by kernel_rfl)) (fun _ _ _ h => h) (Or.inl ⟨by rfl, ?_⟩) ?_ ?_
                rotate_left
                ·intro w'
                 go_simp
                 with_reducible rfl
                rotate_left
                ·simp only [Act.put, List.setIfInBounds_toArray, List.set_cons_zero, List.set_cons_succ, i64_w, i32_w]
                 rfl
                refine pure_ (i := 4) (N := some 31) (v := ?_) (a' := ?_) #[true, true, true, true, true, false, false, false, false, false, false, false, false, false, false, false, false, false, false, false, false, false, false, false, false, false, false, false, false, false, false] rfl rfl (any_of HT_.out (by kernel_rfl)) (fun _ _ _ h => h) (Or.inl ⟨by rfl, ?_⟩) ?_ ?_
                rotate_left
                ·intro w'
                 go_simp
                 with_reducible rfl
                rotate_left
                ·simp only [Act.put, List.setIfInBounds_toArray, List.set_cons_zero, List.set_cons_succ, i64_w, i32_w]
                 rfl
                refine pure_ (i := 5) (N := some 32) (v := ?_) (a' := ?_) #[true, true, true, true, true, true, false, false, false, false, false, false, false, false, false, false, false, false, false, false, false, false, false, false, false, false, false, false, false, false, false] rfl rfl (any_of HT_.out (by kernel_rfl)) (fun _ _ _ h => h) (Or.inl ⟨by rfl, ?_⟩) ?_ ?_
                rotate_left
                ·intro w'
                 go_simp
                 with_reducible rfl
                rotate_left
                ·simp only [Act.put, List.setIfInBounds_toArray, List.set_cons_zero, List.set_cons_succ, i64_w, i32_w]
                 rfl
                refine pure_ (i := 7) (N := some 34) (v := ?_) (a' := ?_) #[true, true, true, true, true, true, false, true, false, false, false, false, false, false, false, false, false, false, false, false, false, false, false, false, false, false, false, false, false, false, false] rfl rfl (any_of HT_.out (by kernel_rfl)) (fun _ _ _ h => h) (Or.inl ⟨by rfl, ?_⟩) ?_ ?_
                rotate_left
                ·intro w'
                 go_simp
                 with_reducible rfl
                rotate_left
                ·simp only [Act.put, List.setIfInBounds_toArray, List.set_cons_zero, List.set_cons_succ, i64_w, i32_w]
                 rfl
                refine pure_ (i := 8) (N := some 35) (v := ?_) (a' := ?_) #[true, true, true, true, true, true, false, true, true, false, false, false, false, false, false, false, false, false, false, false, false, false, false, false, false, false, false, false, false, false, false] rfl rfl (any_of HT_.out (by kernel_rfl)) (fun _ _ _ h => h) (Or.inl ⟨by rfl, ?_⟩) ?_ ?_
                rotate_left
                ·intro w'
                 go_simp
                 with_reducible rfl
                rotate_left
                ·simp only [Act.put, List.setIfInBounds_toArray, List.set_cons_zero, List.set_cons_succ, i64_w, i32_w]
                 rfl
                refine take_ (i := 6) (N := some 33) (v := ?_) (a' := ?_) #[true, true, true, true, true, true, true, true, true, false, false, false, false, false, false, false, false, false, false, false, false, false, false, false, false, false, false, false, false, false, false] rfl rfl (take_ofW HT_.out HW_.out (by kernel_rfl)) (fun _ _ _ h => h) (Or.inl ⟨by rfl, ?_⟩) hHeld ?_ ?_
                rotate_left
                ·rintro w' ⟨s0, s1, s2, s3⟩
                 go_simp
                 with_reducible rfl
                rotate_left
                ·simp only [Act.put, List.setIfInBounds_toArray, List.set_cons_zero, List.set_cons_succ, i64_w, i32_w]
                 rfl
                refine one_ (i := 9) (N := some 36) #[true, true, true, true, true, true, true, true, true, true, false, false, false, false, false, false, false, false, false, false, false, false, false, false, false, false, false, false, false, false, false] rfl rfl (one_of HT_.out (by kernel_rfl)) (by decide) (fun K hK => ?_)
                refine goes_ Try.func74 (by kernel_rfl) rfl #[.int .i64 (rd (rd_L2 l1 x23_2) 0), .int .i64 0, .int .i64 (wrap64 (a0 - 1))] (by rfl) rfl rfl (by (try simp only [List.map_toArray, List.map_cons, List.map_nil]); rfl) ?_
                with_reducible refine (impl_within.calls (rd (rd_L2 l1 x23_2) 0) 0 (wrap64 (a0 - 1)) true _ A14.out).mono ?_
                rintro e w' ⟨rfl, ⟨nd, rfl⟩⟩
                refine ⟨_, rfl, ?_⟩
                refine hK.out _ _ ⟨((HB.out.cell (World.block_lt_of_cell? w _ hw916_0)).trans hw916_0), ((HB.out.cell (World.block_lt_of_cell? w _ hw918_0)).trans hw918_0), ((HB.out.cell (World.block_lt_of_cell? w _ hw920_0)).trans hw920_0), ((HB.out.cell (World.block_lt_of_cell? w _ hw921_0)).trans hw921_0)⟩ (fun hHeld => ?_)
                clear hK K
                refine norm_ (a' := ?_) ?_ ?_
                rotate_left
                ·show Act.put _ (some 36) _ = _
                 simp only [Act.put, List.setIfInBounds_toArray, List.set_cons_zero, List.set_cons_succ, i64_w, i32_w]
                 rfl
                refine pure_ (i := 10) (N := some 37) (v := ?_) (a' := ?_) #[true, true, true, true, true, true, true, true, true, true, true, false, false, false, false, false, false, false, false, false, false, false, false, false, false, false, false, false, false, false, false] rfl rfl (any_of HT_.out (by kernel_rfl)) (fun _ _ _ h => h) (Or.inl ⟨by rfl, ?_⟩) ?_ ?_
                rotate_left
                ·intro w'
                 go_simp
                 with_reducible rfl
                rotate_left
                ·simp only [Act.put, List.setIfInBounds_toArray, List.set_cons_zero, List.set_cons_succ, i64_w, i32_w]
                 rfl
                refine pure_ (i := 11) (N := some 38) (v := ?_) (a' := ?_) #[true, true, true, true, true, true, true, true, true, true, true, true, false, false, false, false, false, false, false, false, false, false, false, false, false, false, false, false, false, false, false] rfl rfl (any_of HT_.out (by kernel_rfl)) (fun _ _ _ h => h) (Or.inl ⟨by rfl, ?_⟩) ?_ ?_
                rotate_left
                ·intro w'
                 go_simp
                 with_reducible rfl
                rotate_left
                ·simp only [Act.put, List.setIfInBounds_toArray, List.set_cons_zero, List.set_cons_succ, i64_w, i32_w]
                 rfl
                refine pure_ (i := 12) (N := some 39) (v := ?_) (a' := ?_) #[true, true, true, true, true, true, true, true, true, true, true, true, true, false, false, false, false, false, false, false, false, false, false, false, false, false, false, false, false, false, false] rfl rfl (any_of HT_.out (by kernel_rfl)) (fun _ _ _ h => h) (Or.inl ⟨by rfl, ?_⟩) ?_ ?_
                rotate_left
                ·intro w'
                 go_simp
                 with_reducible rfl
                rotate_left
                ·simp only [Act.put, List.setIfInBounds_toArray, List.set_cons_zero, List.set_cons_succ, i64_w, i32_w]
                 rfl
                refine pure_ (i := 13) (N := some 40) (v := ?_) (a' := ?_) #[true, true, true, true, true, true, true, true, true, true, true, true, true, true, false, false, false, false, false, false, false, false, false, false, false, false, false, false, false, false, false] rfl rfl (any_of HT_.out (by kernel_rfl)) (fun _ _ _ h => h) (Or.inl ⟨by rfl, ?_⟩) ?_ ?_
                rotate_left
                ·intro w'
                 go_simp
                 with_reducible rfl
                rotate_left
                ·simp only [Act.put, List.setIfInBounds_toArray, List.set_cons_zero, List.set_cons_succ, i64_w, i32_w]
                 rfl
                refine pure_ (i := 14) (N := some 41) (v := ?_) (a' := ?_) #[true, true, true, true, true, true, true, true, true, true, true, true, true, true, true, false, false, false, false, false, false, false, false, false, false, false, false, false, false, false, false] rfl rfl (any_of HT_.out (by kernel_rfl)) (fun _ _ _ h => h) (Or.inl ⟨by rfl, ?_⟩) ?_ ?_
                rotate_left
                ·intro w'
                 go_simp
                 with_reducible rfl
                rotate_left
                ·simp only [Act.put, List.setIfInBounds_toArray, List.set_cons_zero, List.set_cons_succ, i64_w, i32_w]
                 rfl
                refine pure_ (i := 15) (N := some 42) (v := ?_) (a' := ?_) #[true, true, true, true, true, true, true, true, true, true, true, true, true, true, true, true, false, false, false, false, false, false, false, false, false, false, false, false, false, false, false] rfl rfl (any_of HT_.out (by kernel_rfl)) (fun _ _ _ h => h) (Or.inl ⟨by rfl, ?_⟩) ?_ ?_
                rotate_left
                ·intro w'
                 go_simp
                 with_reducible rfl
                rotate_left
                ·simp only [Act.put, List.setIfInBounds_toArray, List.set_cons_zero, List.set_cons_succ, i64_w, i32_w]
                 rfl
                refine take_ (i := 16) (N := some 43) (v := ?_) (a' := ?_) #[true, true, true, true, true, true, true, true, true, true, true, true, true, true, true, true, true, false, false, false, false, false, false, false, false, false, false, false, false, false, false] rfl rfl (take_ofW HT_.out HW_.out (by kernel_rfl)) (fun _ _ _ h => h) (Or.inl ⟨by rfl, ?_⟩) hHeld ?_ ?_
                rotate_left
                ·rintro w' ⟨s0, s1, s2, s3⟩
                 go_simp
                 with_reducible rfl
                rotate_left
                ·simp only [Act.put, List.setIfInBounds_toArray, List.set_cons_zero, List.set_cons_succ, i64_w, i32_w]
                 rfl
                refine one_ (i := 17) (N := some 44) #[true, true, true, true, true, true, true, true, true, true, true, true, true, true, true, true, true, true, false, false, false, false, false, false, false, false, false, false, false, false, false] rfl rfl (one_of HT_.out (by kernel_rfl)) (by decide) (fun K hK => ?_)
                refine goes_ Try.func67 (by kernel_rfl) rfl #[.int .i64 a0, .int .i64 (rd (rd_L2 l1 x23_2) 1)] (by rfl) rfl rfl (by (try simp only [List.map_toArray, List.map_cons, List.map_nil]); rfl) ?_
                with_reducible refine (impl_isSet.calls a0 (rd (rd_L2 l1 x23_2) 1) true _ A17.out).mono ?_
                rintro e w' ⟨rfl, ⟨nd, rfl⟩⟩
                refine ⟨_, rfl, ?_⟩
                refine hK.out _ _ ⟨((HB.out.cell (World.block_lt_of_cell? w _ hw916_0)).trans hw916_0), ((HB.out.cell (World.block_lt_of_cell? w _ hw918_0)).trans hw918_0), ((HB.out.cell (World.block_lt_of_cell? w _ hw920_0)).trans hw920_0), ((HB.out.cell (World.block_lt_of_cell? w _ hw921_0)).trans hw921_0)⟩ (fun hHeld => ?_)
                clear hK K
                refine norm_ (a' := ?_) ?_ ?_
                rotate_left
                ·show Act.put _ (some 44) _ = _
                 simp only [Act.put, List.setIfInBounds_toArray, List.set_cons_zero, List.set_cons_succ, i64_w, i32_w]
                 rfl
                refine pure_ (i := 18) (N := some 45) (v := ?_) (a' := ?_) #[true, true, true, true, true, true, true, true, true, true, true, true, true, true, true, true, true, true, true, false, false, false, false, false, false, false, false, false, false, false, false] rfl rfl (any_of HT_.out (by kernel_rfl)) (fun _ _ _ h => h) (Or.inl ⟨by rfl, ?_⟩) ?_ ?_
                rotate_left
                ·intro w'
                 go_simp
                 with_reducible rfl
                rotate_left
                ·simp only [Act.put, List.setIfInBounds_toArray, List.set_cons_zero, List.set_cons_succ, i64_w, i32_w]
                 rfl
                refine pure_ (i := 19) (N := some 46) (v := ?_) (a' := ?_) #[true, true, true, true, true, true, true, true, true, true, true, true, true, true, true, true, true, true, true, true, false, false, false, false, false, false, false, false, false, false, false] rfl rfl (any_of HT_.out (by kernel_rfl)) (fun _ _ _ h => h) (Or.inl ⟨by rfl, ?_⟩) ?_ ?_
                rotate_left
                ·intro w'
                 go_simp
                 with_reducible rfl
                rotate_left
                ·simp only [Act.put, List.setIfInBounds_toArray, List.set_cons_zero, List.set_cons_succ, i64_w, i32_w]
                 rfl
                refine pure_ (i := 20) (N := some 47) (v := ?_) (a' := ?_) #[true, true, true, true, true, true, true, true, true, true, true, true, true, true, true, true, true, true, true, true, true, false, false, false, false, false, false, false, false, false, false] rfl rfl (any_of HT_.out (by kernel_rfl)) (fun _ _ _ h => h) (Or.inl ⟨by rfl, ?_⟩) ?_ ?_
                rotate_left
                ·intro w'
                 go_simp
                 with_reducible rfl
                rotate_left
                ·simp only [Act.put, List.setIfInBounds_toArray, List.set_cons_zero, List.set_cons_succ, i64_w, i32_w]
                 rfl
                refine pure_ (i := 21) (N := some 48) (v := ?_) (a' := ?_) #[true, true, true, true, true, true, true, true, true, true, true, true, true, true, true, true, true, true, true, true, true, true, false, false, false, false, false, false, false, false, false] rfl rfl (any_of HT_.out (by kernel_rfl)) (fun _ _ _ h => h) (Or.inl ⟨by rfl, ?_⟩) ?_ ?_
                rotate_left
                ·intro w'
                 go_simp
                 with_reducible rfl
                rotate_left
                ·simp only [Act.put, List.setIfInBounds_toArray, List.set_cons_zero, List.set_cons_succ, i64_w, i32_w]
                 rfl
                refine pure_ (i := 22) (N := some 49) (v := ?_) (a' := ?_) #[true, true, true, true, true, true, true, true, true, true, true, true, true, true, true, true, true, true, true, true, true, true, true, false, false, false, false, false, false, false, false] rfl rfl (any_of HT_.out (by kernel_rfl)) (fun _ _ _ h => h) (Or.inl ⟨by rfl, ?_⟩) ?_ ?_
                rotate_left
                ·intro w'
                 go_simp
                 with_reducible rfl
                rotate_left
                ·simp only [Act.put, List.setIfInBounds_toArray, List.set_cons_zero, List.set_cons_succ, i64_w, i32_w]
                 rfl
                refine pure_ (i := 24) (N := some 51) (v := ?_) (a' := ?_) #[true, true, true, true, true, true, true, true, true, true, true, true, true, true, true, true, true, true, true, true, true, true, true, false, true, false, false, false, false, false, false] rfl rfl (any_of HT_.out (by kernel_rfl)) (fun _ _ _ h => h) (Or.inl ⟨by rfl, ?_⟩) ?_ ?_
                rotate_left
                ·intro w'
                 go_simp
                 with_reducible rfl
                rotate_left
                ·simp only [Act.put, List.setIfInBounds_toArray, List.set_cons_zero, List.set_cons_succ, i64_w, i32_w]
                 rfl
                refine pure_ (i := 25) (N := some 52) (v := ?_) (a' := ?_) #[true, true, true, true, true, true, true, true, true, true, true, true, true, true, true, true, true, true, true, true, true, true, true, false, true, true, false, false, false, false, false] rfl rfl (any_of HT_.out (by kernel_rfl)) (fun _ _ _ h => h) (Or.inl ⟨by rfl, ?_⟩) ?_ ?_
                rotate_left
                ·intro w'
                 go_simp
                 with_reducible rfl
                rotate_left
                ·simp only [Act.put, List.setIfInBounds_toArray, List.set_cons_zero, List.set_cons_succ, i64_w, i32_w]
                 rfl
                refine take_ (i := 23) (N := some 50) (v := ?_) (a' := ?_) #[true, true, true, true, true, true, true, true, true, true, true, true, true, true, true, true, true, true, true, true, true, true, true, true, true, true, false, false, false, false, false] rfl rfl (take_ofW HT_.out HW_.out (by kernel_rfl)) (fun _ _ _ h => h) (Or.inl ⟨by rfl, ?_⟩) hHeld ?_ ?_
                rotate_left
                ·rintro w' ⟨s0, s1, s2, s3⟩
                 go_simp
                 with_reducible rfl
                rotate_left
                ·simp only [Act.put, List.setIfInBounds_toArray, List.set_cons_zero, List.set_cons_succ, i64_w, i32_w]
                 rfl
                refine take_ (i := 26) (N := some 53) (v := ?_) (a' := ?_) #[true, true, true, true, true, true, true, true, true, true, true, true, true, true, true, true, true, true, true, true, true, true, true, true, true, true, true, false, false, false, false] rfl rfl (take_ofW HT_.out HW_.out (by kernel_rfl)) (fun _ _ _ h => h) (Or.inl ⟨by rfl, ?_⟩) hHeld ?_ ?_
                rotate_left
                ·rintro w' ⟨s0, s1, s2, s3⟩
                 go_simp
                 with_reducible rfl
                rotate_left
                ·simp only [Act.put, List.setIfInBounds_toArray, List.set_cons_zero, List.set_cons_succ, i64_w, i32_w]
                 rfl
                refine pure_ (i := 27) (N := some 54) (v := ?_) (a' := ?_) #[true, true, true, true, true, true, true, true, true, true, true, true, true, true, true, true, true, true, true, true, true, true, true, true, true, true, true, true, false, false, false] rfl rfl (any_of HT_.out (by kernel_rfl)) (fun _ _ _ h => h) (Or.inl ⟨by rfl, ?_⟩) ?_ ?_
                rotate_left
                ·intro w'
                 go_simp
                 with_reducible rfl
                rotate_left
                ·simp only [Act.put, List.setIfInBounds_toArray, List.set_cons_zero, List.set_cons_succ, i64_w, i32_w]
                 rfl
                refine pure_ (i := 28) (N := some 55) (v := ?_) (a' := ?_) #[true, true, true, true, true, true, true, true, true, true, true, true, true, true, true, true, true, true, true, true, true, true, true, true, true, true, true, true, true, false, false] rfl rfl (any_of HT_.out (by kernel_rfl)) (fun _ _ _ h => h) (Or.inl ⟨by rfl, ?_⟩) ?_ ?_
                rotate_left
                ·intro w'
                 go_simp
                 with_reducible rfl
                rotate_left
                ·simp only [Act.put, List.setIfInBounds_toArray, List.set_cons_zero, List.set_cons_succ, i64_w, i32_w]
                 rfl
                refine pure_ (i := 29) (N := some 56) (v := ?_) (a' := ?_) #[true, true, true, true, true, true, true, true, true, true, true, true, true, true, true, true, true, true, true, true, true, true, true, true, true, true, true, true, true, true, false] rfl rfl (any_of HT_.out (by kernel_rfl)) (fun _ _ _ h => h) (Or.inl ⟨by rfl, ?_⟩) ?_ ?_
                rotate_left
                ·intro w'
                 go_simp
                 with_reducible rfl
                rotate_left
                ·simp only [Act.put, List.setIfInBounds_toArray, List.set_cons_zero, List.set_cons_succ, i64_w, i32_w]
                 rfl
                refine pure_ (i := 30) (N := some 57) (v := ?_) (a' := ?_) #[true, true, true, true, true, true, true, true, true, true, true, true, true, true, true, true, true, true, true, true, true, true, true, true, true, true, true, true, true, true, true] rfl rfl (any_of HT_.out (by kernel_rfl)) (fun _ _ _ h => h) (Or.inl ⟨by rfl, ?_⟩) ?_ ?_
                rotate_left
                ·intro w'
                 go_simp
                 with_reducible rfl
                rotate_left
                ·simp only [Act.put, List.setIfInBounds_toArray, List.set_cons_zero, List.set_cons_succ, i64_w, i32_w]
                 rfl
                refine done_ (done_of HT_.out (by kernel_rfl)) ?_
                have hcz23_0 : w22.cell? ⟨gb913, 0, none⟩ = some (.int .i64 x914000_2) := (blk_cell BK913.out 0).trans rfl
                have hcz23_1 : w22.cell? ⟨gb913, 1, none⟩ = some (.slice none 0 0) := (blk_cell BK913.out 1).trans rfl
                have hfz23_0 := blk_frozen BK913.out 0
                have hfz23_1 := blk_frozen BK913.out 1
                try go_wp2
                refine bodyPost_ret (results_ct rfl _ _ gb913 37 #[.int .i64 0, .slice none 0 0] (0, 0) _ rfl (by (with_reducible repeat (refine blk_drew ?_)); refine blk_put (cs := #[.int .i64 0, .slice none 0 0]) ?_ 1 _ rfl; (with_reducible repeat (refine blk_drew ?_)); refine blk_put (cs := #[.int .i64 x914000_2, .slice none 0 0]) ?_ 0 _ rfl; (with_reducible repeat (refine blk_drewN ?_ _)); exact BK913.out) Try.underlying37 rfl (by kernel_rfl)) rfl ?_
                exact ⟨_, by rfl, by exact Kd.R_nil _ _ _ _ _, by repeat ((with_reducible first | exact HB.out | apply pw_below_drewN | refine below_set ?_ GE913.out))⟩
               ·rw [if_neg c21] at H
                have c21b0 : ((Go.bits .and .i64 (ji20) 1) == 1) = false := beq_eq_false_iff_ne.mpr c21
                have c21b1 : ((Go.bits .and .i64 (ji20) 1) != 1) = true := bne_iff_ne.mpr c21
                have H' := Aside0.mk H
                clear H
                have p915 : 0 ≤ (x23_2 : Int) := of_decide_eq_true (by (with_reducible assumption))
                have q915 : x23_2 < (l1.length : Int) := of_decide_eq_true (by (with_reducible assumption))
                obtain ⟨ad915, A915_0, c915_0, e915, hx915_0, hl915_0, hi915_0⟩ := at_L2 HR1.out x23_2 p915 q915
                cases e915
                replace hx915_0 := (HB.out.cell (World.block_lt_of_cell? w _ hx915_0)).trans hx915_0
                have HR915_0 := Aside0.mk hi915_0
                have HC915_0 := Aside0.mk hl915_0
                clear hi915_0 hl915_0
                replace p915 := eq_true p915
                replace q915 := eq_true q915
                try go_wp2
                have n0_ := Aside0.mk (blk_drew BK913.out)
                have n1_ := Aside0.mk (below_drew1 HB.out)
                clear BK913
                clear HB
                have BK913 := n0_
                have HB := n1_
                clear n0_ n1_
                have p916 : 0 ≤ (0 : Int) := (by omega)
                have q916 : 0 < ((rd_L2 l1 x23_2).length : Int) := of_decide_eq_true (by (with_reducible assumption))
                obtain ⟨ad916, e916, hx916_0⟩ := Kd.at_int HR915_0.out 0 p916 q916
                have hw916_0 := hx916_0
                (try rw [show ((0 : Int)).toNat = 0 from rfl] at hw916_0)
                skip
                (try rw [Addr.add_zero'] at hw916_0)
                cases e916
                have qi916 : (0 < (rd_L2 l1 x23_2).length) = True := eq_true (by omega)
                (try rw [show ((0 : Int)).toNat = 0 from rfl] at hx916_0)
                (try rw [Addr.add_zero'] at hx916_0)
                replace hx916_0 := (HB.out.cell (World.block_lt_of_cell? w _ hx916_0)).trans hx916_0
                replace p916 := eq_true p916
                replace q916 := eq_true q916
                have p918 : 0 ≤ (1 : Int) := (by omega)
                have q918 : 1 < ((rd_L2 l1 x23_2).length : Int) := of_decide_eq_true (by (with_reducible assumption))
                obtain ⟨ad918, e918, hx918_0⟩ := Kd.at_int HR915_0.out 1 p918 q918
                have hw918_0 := hx918_0
                (try rw [show ((1 : Int)).toNat = 1 from rfl] at hw918_0)
                skip
                (try simp only [Nat.reduceMul, Nat.reduceEqDiff, Go.Addr.add, ↓reduceIte] at hw918_0)
                obtain rfl : ad916 = ad918 := (by injection e918)
                (try simp only [show (1 : Int).toNat = 1 from rfl, Nat.reduceMul, Nat.reduceEqDiff, Go.Addr.add, ↓reduceIte] at hx918_0)
                have qi918 : (1 < (rd_L2 l1 x23_2).length) = True := eq_true (by omega)
                skip
                replace hx918_0 := (HB.out.cell (World.block_lt_of_cell? w _ hx918_0)).trans hx918_0
                replace p918 := eq_true p918
                replace q918 := eq_true q918
                have p920 : 0 ≤ (1 : Int) := (by omega)
                have q920 : 1 < ((rd_L2 l1 x23_2).length : Int) := of_decide_eq_true (by (with_reducible assumption))
                obtain ⟨ad920, e920, hx920_0⟩ := Kd.at_int HR915_0.out 1 p920 q920
                have hw920_0 := hx920_0
                (try rw [show ((1 : Int)).toNat = 1 from rfl] at hw920_0)
                skip
                (try simp only [Nat.reduceMul, Nat.reduceEqDiff, Go.Addr.add, ↓reduceIte] at hw920_0)
                obtain rfl : ad916 = ad920 := (by injection e920)
                (try simp only [show (1 : Int).toNat = 1 from rfl, Nat.reduceMul, Nat.reduceEqDiff, Go.Addr.add, ↓reduceIte] at hx920_0)
                have qi920 : (1 < (rd_L2 l1 x23_2).length) = True := eq_true (by omega)
                skip
                replace hx920_0 := (HB.out.cell (World.block_lt_of_cell? w _ hx920_0)).trans hx920_0
                replace p920 := eq_true p920
                replace q920 := eq_true q920
                have p921 : 0 ≤ (0 : Int) := (by omega)
                have q921 : 0 < ((rd_L2 l1 x23_2).length : Int) := of_decide_eq_true (by (with_reducible assumption))
                obtain ⟨ad921, e921, hx921_0⟩ := Kd.at_int HR915_0.out 0 p921 q921
                have hw921_0 := hx921_0
                (try rw [show ((0 : Int)).toNat = 0 from rfl] at hw921_0)
                skip
                (try rw [Addr.add_zero'] at hw921_0)
                obtain rfl : ad916 = ad921 := (by injection e921)
                have qi921 : (0 < (rd_L2 l1 x23_2).length) = True := eq_true (by omega)
                (try rw [show ((0 : Int)).toNat = 0 from rfl] at hx921_0)
                (try rw [Addr.add_zero'] at hx921_0)
                replace hx921_0 := (HB.out.cell (World.block_lt_of_cell? w _ hx921_0)).trans hx921_0
                replace p921 := eq_true p921
                replace q921 := eq_true q921
                refine start_ (n := 31) (S := fun w' => w'.cell? ad916 = some (.int .i64 (rd (rd_L2 l1 x23_2) 0)) ∧ w'.cell? ⟨ad916.block, ad916.off + 1, none⟩ = some (.int .i64 (rd (rd_L2 l1 x23_2) 1)) ∧ w'.cell? ⟨ad916.block, ad916.off + 1, none⟩ = some (.int .i64 (rd (rd_L2 l1 x23_2) 1)) ∧ w'.cell? ad916 = some (.int .i64 (rd (rd_L2 l1 x23_2) 0))) (ds := []) #[false, false, false, false, false, false, false, false, false, false, false, false, false, false, false, false, false, false, false, false, false, false, false, false, false, false, false, false, false, false, false] (by kernel_rfl) rfl rfl ⟨((HB.out.cell (World.block_lt_of_cell? w _ hw916_0)).trans hw916_0), ((HB.out.cell (World.block_lt_of_cell? w _ hw918_0)).trans hw918_0), ((HB.out.cell (World.block_lt_of_cell? w _ hw920_0)).trans hw920_0), ((HB.out.cell (World.block_lt_of_cell? w _ hw921_0)).trans hw921_0)⟩ (fun hHeld => ?_); refine with_tabW impl_SpaceOfClauses.tab6 impl_SpaceOfClauses.bits6 (fun HT_ HW_ => ?_)
                generalize wr.drew = w24 at BK913 HB hx916_0 hx918_0 hx920_0 hx921_0 hHeld ⊢
                refine pure_ (i := 0) (N := some 27) (v := ?_) (a' := ?_) #[true, false, false, false, false, false, false, false, false, false, false, false, false, false, false, false, false, false, false, false, false, false, false, false, false, false, false, false, false, false, false] rfl rfl (any_of HT_.out (by kernel_rfl)) (fun _ _ _ h => h) (Or.inl ⟨by rfl, ?_⟩) ?_ ?_
                rotate_left
                ·intro w'
                 go_simp
                 with_reducible rfl
                rotate_left
                ·simp only [Act.put, List.setIfInBounds_toArray, List.set_cons_zero, List.set_cons_succ, i64_w, i32_w]
                 rfl
                refine pure_ (i := 1) (N := some 28) (v := ?_) (a' := ?_) #[true, true, false, false, false, false, false, false, false, false, false, false, false, false, false, false, false, false, false, false, false, false, false, false, false, false, false, false, false, false, false] rfl rfl (any_of HT_.out (by kernel_rfl)) (fun _ _ _ h => h) (Or.inl ⟨by rfl, ?_⟩) ?_ ?_
                rotate_left
                ·intro w'
                 go_simp
                 with_reducible rfl
                rotate_left
                ·simp only [Act.put, List.setIfInBounds_toArray, List.set_cons_zero, List.set_cons_succ, i64_w, i32_w]
                 rfl
                refine pure_ (i := 2) (N := some 29) (v := ?_) (a' := ?_) #[true, true, true, false, false, false, false, false, false, false, false, false, false, false, false, false, false, false, false, false, false, false, false, false, false, false, false, false, false, false, false] rfl rfl (any_of HT_.out (by kernel_rfl)) (fun _ _ _ h => h) (Or.inl ⟨by rfl, ?_⟩) ?_ ?_
                rotate_left
                ·intro w'
                 go_simp
                 with_reducible rfl
                rotate_left
                ·simp only [Act.put, List.setIfInBounds_toArray, List.set_cons_zero, List.set_cons_succ, i64_w, i32_w]
                 rfl
                refine pure_ (i := 3) (N := some 30) (v := ?_) (a' := ?_) #[true, true, true, true, false, false, false, false, false, false, false, false, false, false, false, false, false, false, false, false, false, false, false, false, false, false, false, false, false, false, false] rfl rfl (any_of HT_.out (by kernel_rfl)) (fun _ _ _ h => h) (Or.inl ⟨by rfl, ?_⟩) ?_ ?_
                rotate_left
                ·intro w'
                 go_simp
                 with_reducible rfl
                rotate_left
                ·simp only [Act.put, List.setIfInBounds_toArray, List.set_cons_zero, List.set_cons_succ, i64_w, i32_w]
                 rfl
                refine pure_ (i := 4) (N := some 31) (v := ?_) (a' := ?_) #[true, true, true, true, true, false, false, false, false, false, false, false, false, false, false, false, false, false, false, false, false, false, false, false, false, false, false, false, false, false, false] rfl rfl (any_of HT_.out (by kernel_rfl)) (fun _ _ _ h => h) (Or.inl ⟨by rfl, ?_⟩) ?_ ?_
                rotate_left
                ·intro w'
                 go_simp
                 with_reducible rfl
                rotate_left
                ·simp only [Act.put, List.setIfInBounds_toArray, List.set_cons_zero, List.set_cons_succ, i64_w, i32_w]
                 rfl
                refine pure_ (i := 5) (N := some 32) (v := ?_) (a' := ?_) #[true, true, true, true, true, true, false, false, false, false, false, false, false, false, false, false, false, false, false, false, false, false, false, false, false, false, false, false, false, false, false] rfl rfl (any_of HT_.out (by kernel_rfl)) (fun _ _ _ h => h) (Or.inl ⟨by rfl, ?_⟩) ?_ ?_
                rotate_left
                ·intro w'
                 go_simp
                 with_reducible rfl
                rotate_left
                ·simp only [Act.put, List.setIfInBounds_toArray, List.set_cons_zero, List.set_cons_succ, i64_w, i32_w]
                 rfl
                refine pure_ (i := 7) (N := some 34) (v := ?_) (a' := ?_) #[true, true, true, true, true, true, false, true, false, false, false, false, false, false, false, false, false, false, false, false, false, false, false, false, false, false, false, false, false, false, false] rfl rfl (any_of HT_.out (by kernel_rfl)) (fun _ _ _ h => h) (Or.inl ⟨by rfl, ?_⟩) ?_ ?_
                rotate_left
                ·intro w'
                 go_simp
                 with_reducible rfl
                rotate_left
                ·simp only [Act.put, List.setIfInBounds_toArray, List.set_cons_zero, List.set_cons_succ, i64_w, i32_w]
                 rfl
                refine pure_ (i := 8) (N := some 35) (v := ?_) (a' := ?_) #[true, true, true, true, true, true, false, true, true, false, false, false, false, false, false, false, false, false, false, false, false, false, false, false, false, false, false, false, false, false, false] rfl rfl (any_of HT_.out (by kernel_rfl)) (fun _ _ _ h => h) (Or.inl ⟨by rfl, ?_⟩) ?_ ?_
                rotate_left
                ·intro w'
                 go_simp
                 with_reducible rfl
                rotate_left
                ·simp only [Act.put, List.setIfInBounds_toArray, List.set_cons_zero, List.set_cons_succ, i64_w, i32_w]
                 rfl
                refine take_ (i := 6) (N := some 33) (v := ?_) (a' := ?_) #[true, true, true, true, true, true, true, true, true, false, false, false, false, false, false, false, false, false, false, false, false, false, false, false, false, false, false, false, false, false, false] rfl rfl (take_ofW HT_.out HW_.out (by kernel_rfl)) (fun _ _ _ h => h) (Or.inl ⟨by rfl, ?_⟩) hHeld ?_ ?_
                rotate_left
                ·rintro w' ⟨s0, s1, s2, s3⟩
                 go_simp
                 with_reducible rfl
                rotate_left
                ·simp only [Act.put, List.setIfInBounds_toArray, List.set_cons_zero, List.set_cons_succ, i64_w, i32_w]
                 rfl
                refine one_ (i := 9) (N := some 36) #[true, true, true, true, true, true, true, true, true, true, false, false, false, false, false, false, false, false, false, false, false, false, false, false, false, false, false, false, false, false, false] rfl rfl (one_of HT_.out (by kernel_rfl)) (by decide) (fun K hK => ?_)
                refine goes_ Try.func74 (by kernel_rfl) rfl #[.int .i64 (rd (rd_L2 l1 x23_2) 0), .int .i64 0, .int .i64 (wrap64 (a0 - 1))] (by rfl) rfl rfl (by (try simp only [List.map_toArray, List.map_cons, List.map_nil]); rfl) ?_
                with_reducible refine (impl_within.calls (rd (rd_L2 l1 x23_2) 0) 0 (wrap64 (a0 - 1)) true _ A14.out).mono ?_
                rintro e w' ⟨rfl, ⟨nd, rfl⟩⟩
                refine ⟨_, rfl, ?_⟩
                refine hK.out _ _ ⟨((HB.out.cell (World.block_lt_of_cell? w _ hw916_0)).trans hw916_0), ((HB.out.cell (World.block_lt_of_cell? w _ hw918_0)).trans hw918_0), ((HB.out.cell (World.block_lt_of_cell? w _ hw920_0)).trans hw920_0), ((HB.out.cell (World.block_lt_of_cell? w _ hw921_0)).trans hw921_0)⟩ (fun hHeld => ?_)
                clear hK K
                refine norm_ (a' := ?_) ?_ ?_
                rotate_left
                ·show Act.put _ (some 36) _ = _
                 simp only [Act.put, List.setIfInBounds_toArray, List.set_cons_zero, List.set_cons_succ, i64_w, i32_w]
                 rfl
                refine pure_ (i := 10) (N := some 37) (v := ?_) (a' := ?_) #[true, true, true, true, true, true, true, true, true, true, true, false, false, false, false, false, false, false, false, false, false, false, false, false, false, false, false, false, false, false, false] rfl rfl (any_of HT_.out (by kernel_rfl)) (fun _ _ _ h => h) (Or.inl ⟨by rfl, ?_⟩) ?_ ?_
                rotate_left
                ·intro w'
                 go_simp
                 with_reducible rfl
                rotate_left
                ·simp only [Act.put, List.setIfInBounds_toArray, List.set_cons_zero, List.set_cons_succ, i64_w, i32_w]
                 rfl
                refine pure_ (i := 11) (N := some 38) (v := ?_) (a' := ?_) #[true, true, true, true, true, true, true, true, true, true, true, true, false, false, false, false, false, false, false, false, false, false, false, false, false, false, false, false, false, false, false] rfl rfl (any_of HT_.out (by kernel_rfl)) (fun _ _ _ h => h) (Or.inl ⟨by rfl, ?_⟩) ?_ ?_
                rotate_left
                ·intro w'
                 go_simp
                 with_reducible rfl
                rotate_left
                ·simp only [Act.put, List.setIfInBounds_toArray, List.set_cons_zero, List.set_cons_succ, i64_w, i32_w]
                 rfl
                refine pure_ (i := 12) (N := some 39) (v := ?_) (a' := ?_) #[true, true, true, true, true, true, true, true, true, true, true, true, true, false, false, false, false, false, false, false, false, false, false, false, false, false, false, false, false, false, false] rfl rfl (any_of HT_.out (by kernel_rfl)) (fun _ _ _ h => h) (Or.inl ⟨by rfl, ?_⟩) ?_ ?_
                rotate_left
                ·intro w'
                 go_simp
                 with_reducible rfl
                rotate_left
                ·simp only [Act.put, List.setIfInBounds_toArray, List.set_cons_zero, List.set_cons_succ, i64_w, i32_w]
                 rfl
                refine pure_ (i := 13) (N := some 40) (v := ?_) (a' := ?_) #[true, true, true, true, true, true, true, true, true, true, true, true, true, true, false, false, false, false, false, false, false, false, false, false, false, false, false, false, false, false, false] rfl rfl (any_of HT_.out (by kernel_rfl)) (fun _ _ _ h => h) (Or.inl ⟨by rfl, ?_⟩) ?_ ?_
                rotate_left
                ·intro w'
                 go_simp
                 with_reducible rfl
                rotate_left
                ·simp only [Act.put, List.setIfInBounds_toArray, List.set_cons_zero, List.set_cons_succ, i64_w, i32_w]
                 rfl
                refine pure_ (i := 14) (N := some 41) (v := ?_) (a' := ?_) #[true, true, true, true, true, true, true, true, true, true, true, true, true, true, true, false, false, false, false, false, false, false, false, false, false, false, false, false, false, false, false] rfl rfl (any_of HT_.out (by kernel_rfl)) (fun _ _ _ h => h) (Or.inl ⟨by rfl, ?_⟩) ?_ ?_
                rotate_left
                ·intro w'
                 go_simp
                 with_reducible rfl
                rotate_left
                ·simp only [Act.put, List.setIfInBounds_toArray, List.set_cons_zero, List.set_cons_succ, i64_w, i32_w]
                 rfl
                refine pure_ (i := 15) (N := some 42) (v := ?_) (a' := ?_) #[true, true, true, true, true, true, true, true, true, true, true, true, true, true, true, true, false, false, false, false, false, false, false, false, false, false, false, false, false, false, false] rfl rfl (any_of HT_.out (by kernel_rfl)) (fun _ _ _ h => h) (Or.inl ⟨by rfl, ?_⟩) ?_ ?_
                rotate_left
                ·intro w'
                 go_simp
                 with_reducible rfl
                rotate_left
                ·simp only [Act.put, List.setIfInBounds_toArray, List.set_cons_zero, List.set_cons_succ, i64_w, i32_w]
                 rfl
                refine take_ (i := 16) (N := some 43) (v := ?_) (a' := ?_) #[true, true, true, true, true, true, true, true, true, true, true, true, true, true, true, true, true, false, false, false, false, false, false, false, false, false, false, false, false, false, false] rfl rfl (take_ofW HT_.out HW_.out (by kernel_rfl)) (fun _ _ _ h => h) (Or.inl ⟨by rfl, ?_⟩) hHeld ?_ ?_
                rotate_left
                ·rintro w' ⟨s0, s1, s2, s3⟩
                 go_simp
                 with_reducible rfl
                rotate_left
                ·simp only [Act.put, List.setIfInBounds_toArray, List.set_cons_zero, List.set_cons_succ, i64_w, i32_w]
                 rfl
                refine one_ (i := 17) (N := some 44) #[true, true, true, true, true, true, true, true, true, true, true, true, true, true, true, true, true, true, false, false, false, false, false, false, false, false, false, false, false, false, false] rfl rfl (one_of HT_.out (by kernel_rfl)) (by decide) (fun K hK => ?_)
                refine goes_ Try.func67 (by kernel_rfl) rfl #[.int .i64 a0, .int .i64 (rd (rd_L2 l1 x23_2) 1)] (by rfl) rfl rfl (by (try simp only [List.map_toArray, List.map_cons, List.map_nil]); rfl) ?_
                with_reducible refine (impl_isSet.calls a0 (rd (rd_L2 l1 x23_2) 1) true _ A17.out).mono ?_
                rintro e w' ⟨rfl, ⟨nd, rfl⟩⟩
                refine ⟨_, rfl, ?_⟩
                refine hK.out _ _ ⟨((HB.out.cell (World.block_lt_of_cell? w _ hw916_0)).trans hw916_0), ((HB.out.cell (World.block_lt_of_cell? w _ hw918_0)).trans hw918_0), ((HB.out.cell (World.block_lt_of_cell? w _ hw920_0)).trans hw920_0), ((HB.out.cell (World.block_lt_of_cell? w _ hw921_0)).trans hw921_0)⟩ (fun hHeld => ?_)
                clear hK K
                refine norm_ (a' := ?_) ?_ ?_
                rotate_left
                ·show Act.put _ (some 44) _ = _
                 simp only [Act.put, List.setIfInBounds_toArray, List.set_cons_zero, List.set_cons_succ, i64_w, i32_w]
                 rfl
                refine pure_ (i := 18) (N := some 45) (v := ?_) (a' := ?_) #[true, true, true, true, true, true, true, true, true, true, true, true, true, true, true, true, true, true, true, false, false, false, false, false, false, false, false, false, false, false, false] rfl rfl (any_of HT_.out (by kernel_rfl)) (fun _ _ _ h => h) (Or.inl ⟨by rfl, ?_⟩) ?_ ?_
                rotate_left
                ·intro w'
                 go_simp
                 with_reducible rfl
                rotate_left
                ·simp only [Act.put, List.setIfInBounds_toArray, List.set_cons_zero, List.set_cons_succ, i64_w, i32_w]
                 rfl
                refine pure_ (i := 19) (N := some 46) (v := ?_) (a' := ?_) #[true, true, true, true, true, true, true, true, true, true, true, true, true, true, true, true, true, true, true, true, false, false, false, false, false, false, false, false, false, false, false] rfl rfl (any_of HT_.out (by kernel_rfl)) (fun _ _ _ h => h) (Or.inl ⟨by rfl, ?_⟩) ?_ ?_
                rotate_left
                ·intro w'
                 go_simp
                 with_reducible rfl
                rotate_left
                ·simp only [Act.put, List.setIfInBounds_toArray, List.set_cons_zero, List.set_cons_succ, i64_w, i32_w]
                 rfl
                refine pure_ (i := 20) (N := some 47) (v := ?_) (a' := ?_) #[true, true, true, true, true, true, true, true, true, true, true, true, true, true, true, true, true, true, true, true, true, false, false, false, false, false, false, false, false, false, false] rfl rfl (any_of HT_.out (by kernel_rfl)) (fun _ _ _ h => h) (Or.inl ⟨by rfl, ?_⟩) ?_ ?_
                rotate_left
                ·intro w'
                 go_simp
                 with_reducible rfl
                rotate_left
                ·simp only [Act.put, List.setIfInBounds_toArray, List.set_cons_zero, List.set_cons_succ, i64_w, i32_w]
                 rfl
                refine pure_ (i := 21) (N := some 48) (v := ?_) (a' := ?_) #[true, true, true, true, true, true, true, true, true, true, true, true, true, true, true, true, true, true, true, true, true, true, false, false, false, false, false, false, false, false, false] rfl rfl (any_of HT_.out (by kernel_rfl)) (fun _ _ _ h => h) (Or.inl ⟨by rfl, ?_⟩) ?_ ?_
                rotate_left
                ·intro w'
                 go_simp
                 with_reducible rfl
                rotate_left
                ·simp only [Act.put, List.setIfInBounds_toArray, List.set_cons_zero, List.set_cons_succ, i64_w, i32_w]
                 rfl
                refine pure_ (i := 22) (N := some 49) (v := ?_) (a' := ?_) #[true, true, true, true, true, true, true, true, true, true, true, true, true, true, true, true, true, true, true, true, true, true, true, false, false, false, false, false, false, false, false] rfl rfl (any_of HT_.out (by kernel_rfl)) (fun _ _ _ h => h) (Or.inl ⟨by rfl, ?_⟩) ?_ ?_
                rotate_left
                ·intro w'
                 go_simp
                 with_reducible rfl
                rotate_left
                ·simp only [Act.put, List.setIfInBounds_toArray, List.set_cons_zero, List.set_cons_succ, i64_w, i32_w]
                 rfl
                refine pure_ (i := 24) (N := some 51) (v := ?_) (a' := ?_) #[true, true, true, true, true, true, true, true, true, true, true, true, true, true, true, true, true, true, true, true, true, true, true, false, true, false, false, false, false, false, false] rfl rfl (any_of HT_.out (by kernel_rfl)) (fun _ _ _ h => h) (Or.inl ⟨by rfl, ?_⟩) ?_ ?_
                rotate_left
                ·intro w'
                 go_simp
                 with_reducible rfl
                rotate_left
                ·simp only [Act.put, List.setIfInBounds_toArray, List.set_cons_zero, List.set_cons_succ, i64_w, i32_w]
                 rfl
                refine pure_ (i := 25) (N := some 52) (v := ?_) (a' := ?_) #[true, true, true, true, true, true, true, true, true, true, true, true, true, true, true, true, true, true, true, true, true, true, true, false, true, true, false, false, false, false, false] rfl rfl (any_of HT_.out (by kernel_rfl)) (fun _ _ _ h => h) (Or.inl ⟨by rfl, ?_⟩) ?_ ?_
                rotate_left
                ·intro w'
                 go_simp
                 with_reducible rfl
                rotate_left
                ·simp only [Act.put, List.setIfInBounds_toArray, List.set_cons_zero, List.set_cons_succ, i64_w, i32_w]
                 rfl
                refine take_ (i := 23) (N := some 50) (v := ?_) (a' := ?_) #[true, true, true, true, true, true, true, true, true, true, true, true, true, true, true, true, true, true, true, true, true, true, true, true, true, true, false, false, false, false, false] rfl rfl (take_ofW HT_.out HW_.out (by kernel_rfl)) (fun _ _ _ h => h) (Or.inl ⟨by rfl, ?_⟩) hHeld ?_ ?_
                rotate_left
                ·rintro w' ⟨s0, s1, s2, s3⟩
                 go_simp
                 with_reducible rfl
                rotate_left
                ·simp only [Act.put, List.setIfInBounds_toArray, List.set_cons_zero, List.set_cons_succ, i64_w, i32_w]
                 rfl
                refine take_ (i := 26) (N := some 53) (v := ?_) (a' := ?_) #[true, true, true, true, true, true, true, true, true, true, true, true, true, true, true, true, true, true, true, true, true, true, true, true, true, true, true, false, false, false, false] rfl rfl (take_ofW HT_.out HW_.out (by kernel_rfl)) (fun _ _ _ h => h) (Or.inl ⟨by rfl, ?_⟩) hHeld ?_ ?_
                rotate_left
                ·rintro w' ⟨s0, s1, s2, s3⟩
                 go_simp
                 with_reducible rfl
                rotate_left
                ·simp only [Act.put, List.setIfInBounds_toArray, List.set_cons_zero, List.set_cons_succ, i64_w, i32_w]
                 rfl
                refine pure_ (i := 27) (N := some 54) (v := ?_) (a' := ?_) #[true, true, true, true, true, true, true, true, true, true, true, true, true, true, true, true, true, true, true, true, true, true, true, true, true, true, true, true, false, false, false] rfl rfl (any_of HT_.out (by kernel_rfl)) (fun _ _ _ h => h) (Or.inl ⟨by rfl, ?_⟩) ?_ ?_
                rotate_left
                ·intro w'
                 go_simp
                 with_reducible rfl
                rotate_left
                ·simp only [Act.put, List.setIfInBounds_toArray, List.set_cons_zero, List.set_cons_succ, i64_w, i32_w]
                 rfl
                refine pure_ (i := 28) (N := some 55) (v := ?_) (a' := ?_) #[true, true, true, true, true, true, true, true, true, true, true, true, true, true, true, true, true, true, true, true, true, true, true, true, true, true, true, true, true, false, false] rfl rfl (any_of HT_.out (by kernel_rfl)) (fun _ _ _ h => h) (Or.inl ⟨by rfl, ?_⟩) ?_ ?_
                rotate_left
                ·intro w'
                 go_simp
                 with_reducible rfl
                rotate_left
                ·simp only [Act.put, List.setIfInBounds_toArray, List.set_cons_zero, List.set_cons_succ, i64_w, i32_w]
                 rfl
                refine pure_ (i := 29) (N := some 56) (v := ?_) (a' := ?_) #[true, true, true, true, true, true, true, true, true, true, true, true, true, true, true, true, true, true, true, true, true, true, true, true, true, true, true, true, true, true, false] rfl rfl (any_of HT_.out (by kernel_rfl)) (fun _ _ _ h => h) (Or.inl ⟨by rfl, ?_⟩) ?_ ?_
                rotate_left
                ·intro w'
                 go_simp
                 with_reducible rfl
                rotate_left
                ·simp only [Act.put, List.setIfInBounds_toArray, List.set_cons_zero, List.set_cons_succ, i64_w, i32_w]
                 rfl
                refine pure_ (i := 30) (N := some 57) (v := ?_) (a' := ?_) #[true, true, true, true, true, true, true, true, true, true, true, true, true, true, true, true, true, true, true, true, true, true, true, true, true, true, true, true, true, true, true] rfl rfl (any_of HT_.out (by kernel_rfl)) (fun _ _ _ h => h) (Or.inl ⟨by rfl, ?_⟩) ?_ ?_
                rotate_left
                ·intro w'
                 go_simp
                 with_reducible rfl
                rotate_left
                ·simp only [Act.put, List.setIfInBounds_toArray, List.set_cons_zero, List.set_cons_succ, i64_w, i32_w]
                 rfl
                refine done_ (done_of HT_.out (by kernel_rfl)) ?_
                try go_wp2
                go_roundg k2
                case measure => have := HJ2.out; have := HK2.out; omega
                case rel => exact ⟨(wrap64 (x23_2 + 1)), (x914000_2), (by rfl), H', ⟨by have := HJ2.out; have := HK2.out; omega⟩, ⟨by (with_reducible repeat (refine blk_drewN ?_ _)); exact BK913.out⟩, ⟨by repeat ((with_reducible first | exact HB.out | apply pw_below_drewN))⟩⟩
              ·rw [if_neg c19] at H
               exact absurd H (by simp)
             ·replace c18 := Bool.eq_false_iff.mpr c18
              subst c18
              have H1 : (some (0, ([] : List Int), false)) = some (r1, r2, r3) := by rw [if_neg (show ¬ (false = true) by decide)] at H; exact H
              clear H
              have H := H1
              clear H1
              simp only [Option.some.injEq, Prod.mk.injEq] at H
              obtain ⟨rfl, rfl, rfl⟩ := H
              have p915 : 0 ≤ (x23_2 : Int) := of_decide_eq_true (by (with_reducible assumption))
              have q915 : x23_2 < (l1.length : Int) := of_decide_eq_true (by (with_reducible assumption))
              obtain ⟨ad915, A915_0, c915_0, e915, hx915_0, hl915_0, hi915_0⟩ := at_L2 HR1.out x23_2 p915 q915
              cases e915
              replace hx915_0 := (HB.out.cell (World.block_lt_of_cell? w _ hx915_0)).trans hx915_0
              have HR915_0 := Aside0.mk hi915_0
              have HC915_0 := Aside0.mk hl915_0
              clear hi915_0 hl915_0
              replace p915 := eq_true p915
              replace q915 := eq_true q915
              try go_wp2
              have n0_ := Aside0.mk (blk_drew BK913.out)
              have n1_ := Aside0.mk (below_drew1 HB.out)
              clear BK913
              clear HB
              have BK913 := n0_
              have HB := n1_
              clear n0_ n1_
              have p916 : 0 ≤ (0 : Int) := (by omega)
              have q916 : 0 < ((rd_L2 l1 x23_2).length : Int) := of_decide_eq_true (by (with_reducible assumption))
              obtain ⟨ad916, e916, hx916_0⟩ := Kd.at_int HR915_0.out 0 p916 q916
              have hw916_0 := hx916_0
              (try rw [show ((0 : Int)).toNat = 0 from rfl] at hw916_0)
              skip
              (try rw [Addr.add_zero'] at hw916_0)
              cases e916
              have qi916 : (0 < (rd_L2 l1 x23_2).length) = True := eq_true (by omega)
              (try rw [show ((0 : Int)).toNat = 0 from rfl] at hx916_0)
              (try rw [Addr.add_zero'] at hx916_0)
              replace hx916_0 := (HB.out.cell (World.block_lt_of_cell? w _ hx916_0)).trans hx916_0
              replace p916 := eq_true p916
              replace q916 := eq_true q916
              have p918 : 0 ≤ (1 : Int) := (by omega)
              have q918 : 1 < ((rd_L2 l1 x23_2).length : Int) := of_decide_eq_true (by (with_reducible assumption))
              obtain ⟨ad918, e918, hx918_0⟩ := Kd.at_int HR915_0.out 1 p918 q918
              have hw918_0 := hx918_0
              (try rw [show ((1 : Int)).toNat = 1 from rfl] at hw918_0)
              skip
              (try simp only [Nat.reduceMul, Nat.reduceEqDiff, Go.Addr.add, ↓reduceIte] at hw918_0)
              obtain rfl : ad916 = ad918 := (by injection e918)
              (try simp only [show (1 : Int).toNat = 1 from rfl, Nat.reduceMul, Nat.reduceEqDiff, Go.Addr.add, ↓reduceIte] at hx918_0)
              have qi918 : (1 < (rd_L2 l1 x23_2).length) = True := eq_true (by omega)
              skip
              replace hx918_0 := (HB.out.cell (World.block_lt_of_cell? w _ hx918_0)).trans hx918_0
              replace p918 := eq_true p918
              replace q918 := eq_true q918
              refine start_ (n := 31) (S := fun w' => w'.cell? ad916 = some (.int .i64 (rd (rd_L2 l1 x23_2) 0)) ∧ w'.cell? ⟨ad916.block, ad916.off + 1, none⟩ = some (.int .i64 (rd (rd_L2 l1 x23_2) 1))) (ds := []) #[false, false, false, false, false, false, false, false, false, false, false, false, false, false, false, false, false, false, false, false, false, false, false, false, false, false, false, false, false, false, false] (by kernel_rfl) rfl rfl ⟨((HB.out.cell (World.block_lt_of_cell? w _ hw916_0)).trans hw916_0), ((HB.out.cell (World.block_lt_of_cell? w _ hw918_0)).trans hw918_0)⟩ (fun hHeld => ?_); refine with_tabW impl_SpaceOfClauses.tab6 impl_SpaceOfClauses.bits6 (fun HT_ HW_ => ?_)
              generalize wr.drew = w25 at BK913 HB hx916_0 hx918_0 hHeld ⊢
              refine pure_ (i := 0) (N := some 27) (v := ?_) (a' := ?_) #[true, false, false, false, false, false, false, false, false, false, false, false, false, false, false, false, false, false, false, false, false, false, false, false, false, false, false, false, false, false, false] rfl rfl (any_of HT_.out (by kernel_rfl)) (fun _ _ _ h => h) (Or.inl ⟨by rfl, ?_⟩) ?_ ?_
              rotate_left
              ·intro w'
               go_simp
               with_reducible rfl
              rotate_left
              ·simp only [Act.put, List.setIfInBounds_toArray, List.set_cons_zero, List.set_cons_succ, i64_w, i32_w]
               rfl
              refine pure_ (i := 1) (N := some 28) (v := ?_) (a' := ?_) #[true, true, false, false, false, false, false, false, false, false, false, false, false, false, false, false, false, false, false, false, false, false, false, false, false, false, false, false, false, false, false] rfl rfl (any_of HT_.out (by kernel_rfl)) (fun _ _ _ h => h) (Or.inl ⟨by rfl, ?_⟩) ?_ ?_
              rotate_left
              ·intro w'
               go_simp
               with_reducible rfl
              rotate_left
              ·simp only [Act.put, List.setIfInBounds_toArray, List.set_cons_zero, List.set_cons_succ, i64_w, i32_w]
               rfl
              refine pure_ (i := 2) (N := some 29) (v := ?_) (a' := ?_) #[true, true, true, false, false, false, false, false, false, false, false, false, false, false, false, false, false, false, false, false, false, false, false, false, false, false, false, false, false, false, false] rfl rfl (any_of HT_.out (by kernel_rfl)) (fun _ _ _ h => h) (Or.inl ⟨by rfl, ?_⟩) ?_ ?_
              rotate_left
              ·intro w'
               go_simp
               with_reducible rfl
              rotate_left
              ·simp only [Act.put, List.setIfInBounds_toArray, List.set_cons_zero, List.set_cons_succ, i64_w, i32_w]
               rfl
              refine pure_ (i := 3) (N := some 30) (v := ?_) (a' := ?_) #[true, true, true, true, false, false, false, false, false, false, false, false, false, false, false, false, false, false, false, false, false, false, false, false, false, false, false, false, false, false, false] rfl rfl (any_of HT_.out (by kernel_rfl)) (fun _ _ _ h => h) (Or.inl ⟨by rfl, ?_⟩) ?_ ?_
              rotate_left
              ·intro w'
               go_simp
               with_reducible rfl
              rotate_left
              ·simp only [Act.put, List.setIfInBounds_toArray, List.set_cons_zero, List.set_cons_succ, i64_w, i32_w]
               rfl
              refine pure_ (i := 4) (N := some 31) (v := ?_) (a' := ?_) #[true, true, true, true, true, false, false, false, false, false, false, false, false, false, false, false, false, false, false, false, false, false, false, false, false, false, false, false, false, false, false] rfl rfl (any_of HT_.out (by kernel_rfl)) (fun _ _ _ h => h) (Or.inl ⟨by rfl, ?_⟩) ?_ ?_
              rotate_left
              ·intro w'
               go_simp
               with_reducible rfl
              rotate_left
              ·simp only [Act.put, List.setIfInBounds_toArray, List.set_cons_zero, List.set_cons_succ, i64_w, i32_w]
               rfl
              refine pure_ (i := 5) (N := some 32) (v := ?_) (a' := ?_) #[true, true, true, true, true, true, false, false, false, false, false, false, false, false, false, false, false, false, false, false, false, false, false, false, false, false, false, false, false, false, false] rfl rfl (any_of HT_.out (by kernel_rfl)) (fun _ _ _ h => h) (Or.inl ⟨by rfl, ?_⟩) ?_ ?_
              rotate_left
              ·intro w'
               go_simp
               with_reducible rfl
              rotate_left
              ·simp only [Act.put, List.setIfInBounds_toArray, List.set_cons_zero, List.set_cons_succ, i64_w, i32_w]
               rfl
              refine pure_ (i := 7) (N := some 34) (v := ?_) (a' := ?_) #[true, true, true, true, true, true, false, true, false, false, false, false, false, false, false, false, false, false, false, false, false, false, false, false, false, false, false, false, false, false, false] rfl rfl (any_of HT_.out (by kernel_rfl)) (fun _ _ _ h => h) (Or.inl ⟨by rfl, ?_⟩) ?_ ?_
              rotate_left
              ·intro w'
               go_simp
               with_reducible rfl
              rotate_left
              ·simp only [Act.put, List.setIfInBounds_toArray, List.set_cons_zero, List.set_cons_succ, i64_w, i32_w]
               rfl
              refine pure_ (i := 8) (N := some 35) (v := ?_) (a' := ?_) #[true, true, true, true, true, true, false, true, true, false, false, false, false, false, false, false, false, false, false, false, false, false, false, false, false, false, false, false, false, false, false] rfl rfl (any_of HT_.out (by kernel_rfl)) (fun _ _ _ h => h) (Or.inl ⟨by rfl, ?_⟩) ?_ ?_
              rotate_left
              ·intro w'
               go_simp
               with_reducible rfl
              rotate_left
              ·simp only [Act.put, List.setIfInBounds_toArray, List.set_cons_zero, List.set_cons_succ, i64_w, i32_w]
               rfl
              refine take_ (i := 6) (N := some 33) (v := ?_) (a' := ?_) #[true, true, true, true, true, true, true, true, true, false, false, false, false, false, false, false, false, false, false, false, false, false, false, false, false, false, false, false, false, false, false] rfl rfl (take_ofW HT_.out HW_.out (by kernel_rfl)) (fun _ _ _ h => h) (Or.inl ⟨by rfl, ?_⟩) hHeld ?_ ?_
              rotate_left
              ·rintro w' ⟨s0, s1⟩
               go_simp
               with_reducible rfl
              rotate_left
              ·simp only [Act.put, List.setIfInBounds_toArray, List.set_cons_zero, List.set_cons_succ, i64_w, i32_w]
               rfl
              refine one_ (i := 9) (N := some 36) #[true, true, true, true, true, true, true, true, true, true, false, false, false, false, false, false, false, false, false, false, false, false, false, false, false, false, false, false, false, false, false] rfl rfl (one_of HT_.out (by kernel_rfl)) (by decide) (fun K hK => ?_)
              refine goes_ Try.func74 (by kernel_rfl) rfl #[.int .i64 (rd (rd_L2 l1 x23_2) 0), .int .i64 0, .int .i64 (wrap64 (a0 - 1))] (by rfl) rfl rfl (by (try simp only [List.map_toArray, List.map_cons, List.map_nil]); rfl) ?_
              with_reducible refine (impl_within.calls (rd (rd_L2 l1 x23_2) 0) 0 (wrap64 (a0 - 1)) true _ A14.out).mono ?_
              rintro e w' ⟨rfl, ⟨nd, rfl⟩⟩
              refine ⟨_, rfl, ?_⟩
              refine hK.out _ _ ⟨((HB.out.cell (World.block_lt_of_cell? w _ hw916_0)).trans hw916_0), ((HB.out.cell (World.block_lt_of_cell? w _ hw918_0)).trans hw918_0)⟩ (fun hHeld => ?_)
              clear hK K
              refine norm_ (a' := ?_) ?_ ?_
              rotate_left
              ·show Act.put _ (some 36) _ = _
               simp only [Act.put, List.setIfInBounds_toArray, List.set_cons_zero, List.set_cons_succ, i64_w, i32_w]
               rfl
              refine pure_ (i := 10) (N := some 37) (v := ?_) (a' := ?_) #[true, true, true, true, true, true, true, true, true, true, true, false, false, false, false, false, false, false, false, false, false, false, false, false, false, false, false, false, false, false, false] rfl rfl (any_of HT_.out (by kernel_rfl)) (fun _ _ _ h => h) (Or.inl ⟨by rfl, ?_⟩) ?_ ?_
              rotate_left
              ·intro w'
               go_simp
               with_reducible rfl
              rotate_left
              ·simp only [Act.put, List.setIfInBounds_toArray, List.set_cons_zero, List.set_cons_succ, i64_w, i32_w]
               rfl
              refine pure_ (i := 11) (N := some 38) (v := ?_) (a' := ?_) #[true, true, true, true, true, true, true, true, true, true, true, true, false, false, false, false, false, false, false, false, false, false, false, false, false, false, false, false, false, false, false] rfl rfl (any_of HT_.out (by kernel_rfl)) (fun _ _ _ h => h) (Or.inl ⟨by rfl, ?_⟩) ?_ ?_
              rotate_left
              ·intro w'
               go_simp
               with_reducible rfl
              rotate_left
              ·simp only [Act.put, List.setIfInBounds_toArray, List.set_cons_zero, List.set_cons_succ, i64_w, i32_w]
               rfl
              refine pure_ (i := 12) (N := some 39) (v := ?_) (a' := ?_) #[true, true, true, true, true, true, true, true, true, true, true, true, true, false, false, false, false, false, false, false, false, false, false, false, false, false, false, false, false, false, false] rfl rfl (any_of HT_.out (by kernel_rfl)) (fun _ _ _ h => h) (Or.inl ⟨by rfl, ?_⟩) ?_ ?_
              rotate_left
              ·intro w'
               go_simp
               with_reducible rfl
              rotate_left
              ·simp only [Act.put, List.setIfInBounds_toArray, List.set_cons_zero, List.set_cons_succ, i64_w, i32_w]
               rfl
              refine pure_ (i := 13) (N := some 40) (v := ?_) (a' := ?_) #[true, true, true, true, true, true, true, true, true, true, true, true, true, true, false, false, false, false, false, false, false, false, false, false, false, false, false, false, false, false, false] rfl rfl (any_of HT_.out (by kernel_rfl)) (fun _ _ _ h => h) (Or.inl ⟨by rfl, ?_⟩) ?_ ?_
              rotate_left
              ·intro w'
               go_simp
               with_reducible rfl
              rotate_left
              ·simp only [Act.put, List.setIfInBounds_toArray, List.set_cons_zero, List.set_cons_succ, i64_w, i32_w]
               rfl
              refine pure_ (i := 14) (N := some 41) (v := ?_) (a' := ?_) #[true, true, true, true, true, true, true, true, true, true, true, true, true, true, true, false, false, false, false, false, false, false, false, false, false, false, false, false, false, false, false] rfl rfl (any_of HT_.out (by kernel_rfl)) (fun _ _ _ h => h) (Or.inl ⟨by rfl, ?_⟩) ?_ ?_
              rotate_left
              ·intro w'
               go_simp
               with_reducible rfl
              rotate_left
              ·simp only [Act.put, List.setIfInBounds_toArray, List.set_cons_zero, List.set_cons_succ, i64_w, i32_w]
               rfl
              refine pure_ (i := 15) (N := some 42) (v := ?_) (a' := ?_) #[true, true, true, true, true, true, true, true, true, true, true, true, true, true, true, true, false, false, false, false, false, false, false, false, false, false, false, false, false, false, false] rfl rfl (any_of HT_.out (by kernel_rfl)) (fun _ _ _ h => h) (Or.inl ⟨by rfl, ?_⟩) ?_ ?_
              rotate_left
              ·intro w'
               go_simp
               with_reducible rfl
              rotate_left
              ·simp only [Act.put, List.setIfInBounds_toArray, List.set_cons_zero, List.set_cons_succ, i64_w, i32_w]
               rfl
              refine take_ (i := 16) (N := some 43) (v := ?_) (a' := ?_) #[true, true, true, true, true, true, true, true, true, true, true, true, true, true, true, true, true, false, false, false, false, false, false, false, false, false, false, false, false, false, false] rfl rfl (take_ofW HT_.out HW_.out (by kernel_rfl)) (fun _ _ _ h => h) (Or.inl ⟨by rfl, ?_⟩) hHeld ?_ ?_
              rotate_left
              ·rintro w' ⟨s0, s1⟩
               go_simp
               with_reducible rfl
              rotate_left
              ·simp only [Act.put, List.setIfInBounds_toArray, List.set_cons_zero, List.set_cons_succ, i64_w, i32_w]
               rfl
              refine one_ (i := 17) (N := some 44) #[true, true, true, true, true, true, true, true, true, true, true, true, true, true, true, true, true, true, false, false, false, false, false, false, false, false, false, false, false, false, false] rfl rfl (one_of HT_.out (by kernel_rfl)) (by decide) (fun K hK => ?_)
              refine goes_ Try.func67 (by kernel_rfl) rfl #[.int .i64 a0, .int .i64 (rd (rd_L2 l1 x23_2) 1)] (by rfl) rfl rfl (by (try simp only [List.map_toArray, List.map_cons, List.map_nil]); rfl) ?_
              with_reducible refine (impl_isSet.calls a0 (rd (rd_L2 l1 x23_2) 1) false _ A17.out).mono ?_
              rintro e w' ⟨rfl, ⟨nd, rfl⟩⟩
              refine ⟨_, rfl, ?_⟩
              refine hK.out _ _ ⟨((HB.out.cell (World.block_lt_of_cell? w _ hw916_0)).trans hw916_0), ((HB.out.cell (World.block_lt_of_cell? w _ hw918_0)).trans hw918_0)⟩ (fun hHeld => ?_)
              clear hK K
              refine norm_ (a' := ?_) ?_ ?_
              rotate_left
              ·show Act.put _ (some 44) _ = _
               simp only [Act.put, List.setIfInBounds_toArray, List.set_cons_zero, List.set_cons_succ, i64_w, i32_w]
               rfl
              refine pure_ (i := 18) (N := some 45) (v := ?_) (a' := ?_) #[true, true, true, true, true, true, true, true, true, true, true, true, true, true, true, true, true, true, true, false, false, false, false, false, false, false, false, false, false, false, false] rfl rfl (any_of HT_.out (by kernel_rfl)) (fun _ _ _ h => h) (Or.inl ⟨by rfl, ?_⟩) ?_ ?_
              rotate_left
              ·intro w'
               go_simp
               with_reducible rfl
              rotate_left
              ·simp only [Act.put, List.setIfInBounds_toArray, List.set_cons_zero, List.set_cons_succ, i64_w, i32_w]
               rfl
              refine pure_ (i := 19) (N := some 46) (v := ?_) (a' := ?_) #[true, true, true, true, true, true, true, true, true, true, true, true, true, true, true, true, true, true, true, true, false, false, false, false, false, false, false, false, false, false, false] rfl rfl (any_of HT_.out (by kernel_rfl)) (fun _ _ _ h => h) (Or.inl ⟨by rfl, ?_⟩) ?_ ?_
              rotate_left
              ·intro w'
               go_simp
               with_reducible rfl
              rotate_left
              ·simp only [Act.put, List.setIfInBounds_toArray, List.set_cons_zero, List.set_cons_succ, i64_w, i32_w]
               rfl
              refine pure_ (i := 20) (N := some 47) (v := ?_) (a' := ?_) #[true, true, true, true, true, true, true, true, true, true, true, true, true, true, true, true, true, true, true, true, true, false, false, false, false, false, false, false, false, false, false] rfl rfl (any_of HT_.out (by kernel_rfl)) (fun _ _ _ h => h) (Or.inl ⟨by rfl, ?_⟩) ?_ ?_
              rotate_left
              ·intro w'
               go_simp
               with_reducible rfl
              rotate_left
              ·simp only [Act.put, List.setIfInBounds_toArray, List.set_cons_zero, List.set_cons_succ, i64_w, i32_w]
               rfl
              refine pure_ (i := 21) (N := some 48) (v := undef) (a' := ?_) #[true, true, true, true, true, true, true, true, true, true, true, true, true, true, true, true, true, true, true, true, true, true, false, false, false, false, false, false, false, false, false] rfl rfl (any_of HT_.out (by kernel_rfl)) (fun _ _ _ h => h) (Or.inr ⟨by rfl, rfl⟩) ?_ ?_
              rotate_left
              ·simp only [Act.put, List.setIfInBounds_toArray, List.set_cons_zero, List.set_cons_succ, i64_w, i32_w]
               rfl
              refine pure_ (i := 22) (N := some 49) (v := undef) (a' := ?_) #[true, true, true, true, true, true, true, true, true, true, true, true, true, true, true, true, true, true, true, true, true, true, true, false, false, false, false, false, false, false, false] rfl rfl (any_of HT_.out (by kernel_rfl)) (fun _ _ _ h => h) (Or.inr ⟨by rfl, rfl⟩) ?_ ?_
              rotate_left
              ·simp only [Act.put, List.setIfInBounds_toArray, List.set_cons_zero, List.set_cons_succ, i64_w, i32_w]
               rfl
              refine pure_ (i := 23) (N := some 50) (v := undef) (a' := ?_) #[true, true, true, true, true, true, true, true, true, true, true, true, true, true, true, true, true, true, true, true, true, true, true, true, false, false, false, false, false, false, false] rfl rfl (any_of HT_.out (by kernel_rfl)) (fun _ _ _ h => h) (Or.inr ⟨by rfl, rfl⟩) ?_ ?_
              rotate_left
              ·simp only [Act.put, List.setIfInBounds_toArray, List.set_cons_zero, List.set_cons_succ, i64_w, i32_w]
               rfl
              refine pure_ (i := 24) (N := some 51) (v := undef) (a' := ?_) #[true, true, true, true, true, true, true, true, true, true, true, true, true, true, true, true, true, true, true, true, true, true, true, true, true, false, false, false, false, false, false] rfl rfl (any_of HT_.out (by kernel_rfl)) (fun _ _ _ h => h) (Or.inr ⟨by rfl, rfl⟩) ?_ ?_
              rotate_left
              ·simp only [Act.put, List.setIfInBounds_toArray, List.set_cons_zero, List.set_cons_succ, i64_w, i32_w]
               rfl
              refine pure_ (i := 25) (N := some 52) (v := undef) (a' := ?_) #[true, true, true, true, true, true, true, true, true, true, true, true, true, true, true, true, true, true, true, true, true, true, true, true, true, true, false, false, false, false, false] rfl rfl (any_of HT_.out (by kernel_rfl)) (fun _ _ _ h => h) (Or.inr ⟨by rfl, rfl⟩) ?_ ?_
              rotate_left
              ·simp only [Act.put, List.setIfInBounds_toArray, List.set_cons_zero, List.set_cons_succ, i64_w, i32_w]
               rfl
              refine pure_ (i := 26) (N := some 53) (v := undef) (a' := ?_) #[true, true, true, true, true, true, true, true, true, true, true, true, true, true, true, true, true, true, true, true, true, true, true, true, true, true, true, false, false, false, false] rfl rfl (any_of HT_.out (by kernel_rfl)) (fun _ _ _ h => h) (Or.inr ⟨by rfl, rfl⟩) ?_ ?_
              rotate_left
              ·simp only [Act.put, List.setIfInBounds_toArray, List.set_cons_zero, List.set_cons_succ, i64_w, i32_w]
               rfl
              refine pure_ (i := 27) (N := some 54) (v := undef) (a' := ?_) #[true, true, true, true, true, true, true, true, true, true, true, true, true, true, true, true, true, true, true, true, true, true, true, true, true, true, true, true, false, false, false] rfl rfl (any_of HT_.out (by kernel_rfl)) (fun _ _ _ h => h) (Or.inr ⟨by rfl, rfl⟩) ?_ ?_
              rotate_left
              ·simp only [Act.put, List.setIfInBounds_toArray, List.set_cons_zero, List.set_cons_succ, i64_w, i32_w]
               rfl
              refine pure_ (i := 28) (N := some 55) (v := undef) (a' := ?_) #[true, true, true, true, true, true, true, true, true, true, true, true, true, true, true, true, true, true, true, true, true, true, true, true, true, true, true, true, true, false, false] rfl rfl (any_of HT_.out (by kernel_rfl)) (fun _ _ _ h => h) (Or.inr ⟨by rfl, rfl⟩) ?_ ?_
              rotate_left
              ·simp only [Act.put, List.setIfInBounds_toArray, List.set_cons_zero, List.set_cons_succ, i64_w, i32_w]
               rfl
              refine pure_ (i := 29) (N := some 56) (v := undef) (a' := ?_) #[true, true, true, true, true, true, true, true, true, true, true, true, true, true, true, true, true, true, true, true, true, true, true, true, true, true, true, true, true, true, false] rfl rfl (any_of HT_.out (by kernel_rfl)) (fun _ _ _ h => h) (Or.inr ⟨by rfl, rfl⟩) ?_ ?_
              rotate_left
              ·simp only [Act.put, List.setIfInBounds_toArray, List.set_cons_zero, List.set_cons_succ, i64_w, i32_w]
               rfl
              refine pure_ (i := 30) (N := some 57) (v := ?_) (a' := ?_) #[true, true, true, true, true, true, true, true, true, true, true, true, true, true, true, true, true, true, true, true, true, true, true, true, true, true, true, true, true, true, true] rfl rfl (any_of HT_.out (by kernel_rfl)) (fun _ _ _ h => h) (Or.inl ⟨by rfl, ?_⟩) ?_ ?_
              rotate_left
              ·intro w'
               go_simp
               with_reducible rfl
              rotate_left
              ·simp only [Act.put, List.setIfInBounds_toArray, List.set_cons_zero, List.set_cons_succ, i64_w, i32_w]
               rfl
              refine done_ (done_of HT_.out (by kernel_rfl)) ?_
              have hcz26_0 : w25.cell? ⟨gb913, 0, none⟩ = some (.int .i64 x914000_2) := (blk_cell BK913.out 0).trans rfl
              have hcz26_1 : w25.cell? ⟨gb913, 1, none⟩ = some (.slice none 0 0) := (blk_cell BK913.out 1).trans rfl
              have hfz26_0 := blk_frozen BK913.out 0
              have hfz26_1 := blk_frozen BK913.out 1
              try go_wp2
              refine bodyPost_ret (results_ct rfl _ _ gb913 37 #[.int .i64 0, .slice none 0 0] (0, 0) _ rfl (by (with_reducible repeat (refine blk_drew ?_)); refine blk_put (cs := #[.int .i64 0, .slice none 0 0]) ?_ 1 _ rfl; (with_reducible repeat (refine blk_drew ?_)); refine blk_put (cs := #[.int .i64 x914000_2, .slice none 0 0]) ?_ 0 _ rfl; (with_reducible repeat (refine blk_drewN ?_ _)); exact BK913.out) Try.underlying37 rfl (by kernel_rfl)) rfl ?_
              exact ⟨_, by rfl, by exact Kd.R_nil _ _ _ _ _, by repeat ((with_reducible first | exact HB.out | apply pw_below_drewN | refine below_set ?_ GE913.out))⟩
            ·rw [if_neg c16] at H
             exact absurd H (by simp)
           ·replace c15 := Bool.eq_false_iff.mpr c15
            subst c15
            have H1 : (some (0, ([] : List Int), false)) = some (r1, r2, r3) := by rw [if_neg (show ¬ (false = true) by decide)] at H; exact H
            clear H
            have H := H1
            clear H1
            simp only [Option.some.injEq, Prod.mk.injEq] at H
            obtain ⟨rfl, rfl, rfl⟩ := H
            have p915 : 0 ≤ (x23_2 : Int) := of_decide_eq_true (by (with_reducible assumption))
            have q915 : x23_2 < (l1.length : Int) := of_decide_eq_true (by (with_reducible assumption))
            obtain ⟨ad915, A915_0, c915_0, e915, hx915_0, hl915_0, hi915_0⟩ := at_L2 HR1.out x23_2 p915 q915
            cases e915
            replace hx915_0 := (HB.out.cell (World.block_lt_of_cell? w _ hx915_0)).trans hx915_0
            have HR915_0 := Aside0.mk hi915_0
            have HC915_0 := Aside0.mk hl915_0
            clear hi915_0 hl915_0
            replace p915 := eq_true p915
            replace q915 := eq_true q915
            try go_wp2
            have n0_ := Aside0.mk (blk_drew BK913.out)
            have n1_ := Aside0.mk (below_drew1 HB.out)
            clear BK913
            clear HB
            have BK913 := n0_
            have HB := n1_
            clear n0_ n1_
            have p916 : 0 ≤ (0 : Int) := (by omega)
            have q916 : 0 < ((rd_L2 l1 x23_2).length : Int) := of_decide_eq_true (by (with_reducible assumption))
            obtain ⟨ad916, e916, hx916_0⟩ := Kd.at_int HR915_0.out 0 p916 q916
            have hw916_0 := hx916_0
            (try rw [show ((0 : Int)).toNat = 0 from rfl] at hw916_0)
            skip
            (try rw [Addr.add_zero'] at hw916_0)
            cases e916
            have qi916 : (0 < (rd_L2 l1 x23_2).length) = True := eq_true (by omega)
            (try rw [show ((0 : Int)).toNat = 0 from rfl] at hx916_0)
            (try rw [Addr.add_zero'] at hx916_0)
            replace hx916_0 := (HB.out.cell (World.block_lt_of_cell? w _ hx916_0)).trans hx916_0
            replace p916 := eq_true p916
            replace q916 := eq_true q916
            refine start_ (n := 31) (S := fun w' => w'.cell? ad916 = some (.int .i64 (rd (rd_L2 l1 x23_2) 0))) (ds := []) #[false, false, false, false, false, false, false, false, false, false, false, false, false, false, false, false, false, false, false, false, false, false, false, false, false, false, false, false, false, false, false] (by kernel_rfl) rfl rfl (((HB.out.cell (World.block_lt_of_cell? w _ hw916_0)).trans hw916_0)) (fun hHeld => ?_); refine with_tabW impl_SpaceOfClauses.tab6 impl_SpaceOfClauses.bits6 (fun HT_ HW_ => ?_)
            generalize wr.drew = w27 at BK913 HB hx916_0 hHeld ⊢
            refine pure_ (i := 0) (N := some 27) (v := ?_) (a' := ?_) #[true, false, false, false, false, false, false, false, false, false, false, false, false, false, false, false, false, false, false, false, false, false, false, false, false, false, false, false, false, false, false] rfl rfl (any_of HT_.out (by kernel_rfl)) (fun _ _ _ h => h) (Or.inl ⟨by rfl, ?_⟩) ?_ ?_
            rotate_left
            ·intro w'
             go_simp
             with_reducible rfl
            rotate_left
            ·simp only [Act.put, List.setIfInBounds_toArray, List.set_cons_zero, List.set_cons_succ, i64_w, i32_w]
             rfl
            refine pure_ (i := 1) (N := some 28) (v := ?_) (a' := ?_) #[true, true, false, false, false, false, false, false, false, false, false, false, false, false, false, false, false, false, false, false, false, false, false, false, false, false, false, false, false, false, false] rfl rfl (any_of HT_.out (by kernel_rfl)) (fun _ _ _ h => h) (Or.inl ⟨by rfl, ?_⟩) ?_ ?_
            rotate_left
            ·intro w'
             go_simp
             with_reducible rfl
            rotate_left
            ·simp only [Act.put, List.setIfInBounds_toArray, List.set_cons_zero, List.set_cons_succ, i64_w, i32_w]
             rfl
            refine pure_ (i := 2) (N := some 29) (v := ?_) (a' := ?_) #[true, true, true, false, false, false, false, false, false, false, false, false, false, false, false, false, false, false, false, false, false, false, false, false, false, false, false, false, false, false, false] rfl rfl (any_of HT_.out (by kernel_rfl)) (fun _ _ _ h => h) (Or.inl ⟨by rfl, ?_⟩) ?_ ?_
            rotate_left
            ·intro w'
             go_simp
             with_reducible rfl
            rotate_left
            ·simp only [Act.put, List.setIfInBounds_toArray, List.set_cons_zero, List.set_cons_succ, i64_w, i32_w]
             rfl
            refine pure_ (i := 3) (N := some 30) (v := ?_) (a' := ?_) #[true, true, true, true, false, false, false, false, false, false, false, false, false, false, false, false, false, false, false, false, false, false, false, false, false, false, false, false, false, false, false] rfl rfl (any_of HT_.out (by kernel_rfl)) (fun _ _ _ h => h) (Or.inl ⟨by rfl, ?_⟩) ?_ ?_
            rotate_left
            ·intro w'
             go_simp
             with_reducible rfl
            rotate_left
            ·simp only [Act.put, List.setIfInBounds_toArray, List.set_cons_zero, List.set_cons_succ, i64_w, i32_w]
             rfl
            refine pure_ (i := 4) (N := some 31) (v := ?_) (a' := ?_) #[true, true, true, true, true, false, false, false, false, false, false, false, false, false, false, false, false, false, false, false, false, false, false, false, false, false, false, false, false, false, false] rfl rfl (any_of HT_.out (by kernel_rfl)) (fun _ _ _ h => h) (Or.inl ⟨by rfl, ?_⟩) ?_ ?_
            rotate_left
            ·intro w'
             go_simp
             with_reducible rfl
            rotate_left
            ·simp only [Act.put, List.setIfInBounds_toArray, List.set_cons_zero, List.set_cons_succ, i64_w, i32_w]
             rfl
            refine pure_ (i := 5) (N := some 32) (v := ?_) (a' := ?_) #[true, true, true, true, true, true, false, false, false, false, false, false, false, false, false, false, false, false, false, false, false, false, false, false, false, false, false, false, false, false, false] rfl rfl (any_of HT_.out (by kernel_rfl)) (fun _ _ _ h => h) (Or.inl ⟨by rfl, ?_⟩) ?_ ?_
            rotate_left
            ·intro w'
             go_simp
             with_reducible rfl
            rotate_left
            ·simp only [Act.put, List.setIfInBounds_toArray, List.set_cons_zero, List.set_cons_succ, i64_w, i32_w]
             rfl
            refine pure_ (i := 7) (N := some 34) (v := ?_) (a' := ?_) #[true, true, true, true, true, true, false, true, false, false, false, false, false, false, false, false, false, false, false, false, false, false, false, false, false, false, false, false, false, false, false] rfl rfl (any_of HT_.out (by kernel_rfl)) (fun _ _ _ h => h) (Or.inl ⟨by rfl, ?_⟩) ?_ ?_
            rotate_left
            ·intro w'
             go_simp
             with_reducible rfl
            rotate_left
            ·simp only [Act.put, List.setIfInBounds_toArray, List.set_cons_zero, List.set_cons_succ, i64_w, i32_w]
             rfl
            refine pure_ (i := 8) (N := some 35) (v := ?_) (a' := ?_) #[true, true, true, true, true, true, false, true, true, false, false, false, false, false, false, false, false, false, false, false, false, false, false, false, false, false, false, false, false, false, false] rfl rfl (any_of HT_.out (by kernel_rfl)) (fun _ _ _ h => h) (Or.inl ⟨by rfl, ?_⟩) ?_ ?_
            rotate_left
            ·intro w'
             go_simp
             with_reducible rfl
            rotate_left
            ·simp only [Act.put, List.setIfInBounds_toArray, List.set_cons_zero, List.set_cons_succ, i64_w, i32_w]
             rfl
            refine take_ (i := 6) (N := some 33) (v := ?_) (a' := ?_) #[true, true, true, true, true, true, true, true, true, false, false, false, false, false, false, false, false, false, false, false, false, false, false, false, false, false, false, false, false, false, false] rfl rfl (take_ofW HT_.out HW_.out (by kernel_rfl)) (fun _ _ _ h => h) (Or.inl ⟨by rfl, ?_⟩) hHeld ?_ ?_
            rotate_left
            ·intro w' s0
             go_simp
             with_reducible rfl
            rotate_left
            ·simp only [Act.put, List.setIfInBounds_toArray, List.set_cons_zero, List.set_cons_succ, i64_w, i32_w]
             rfl
            refine one_ (i := 9) (N := some 36) #[true, true, true, true, true, true, true, true, true, true, false, false, false, false, false, false, false, false, false, false, false, false, false, false, false, false, false, false, false, false, false] rfl rfl (one_of HT_.out (by kernel_rfl)) (by decide) (fun K hK => ?_)
            refine goes_ Try.func74 (by kernel_rfl) rfl #[.int .i64 (rd (rd_L2 l1 x23_2) 0), .int .i64 0, .int .i64 (wrap64 (a0 - 1))] (by rfl) rfl rfl (by (try simp only [List.map_toArray, List.map_cons, List.map_nil]); rfl) ?_
            with_reducible refine (impl_within.calls (rd (rd_L2 l1 x23_2) 0) 0 (wrap64 (a0 - 1)) false _ A14.out).mono ?_
            rintro e w' ⟨rfl, ⟨nd, rfl⟩⟩
            refine ⟨_, rfl, ?_⟩
            refine hK.out _ _ (((HB.out.cell (World.block_lt_of_cell? w _ hw916_0)).trans hw916_0)) (fun hHeld => ?_)
            clear hK K
            refine norm_ (a' := ?_) ?_ ?_
            rotate_left
            ·show Act.put _ (some 36) _ = _
             simp only [Act.put, List.setIfInBounds_toArray, List.set_cons_zero, List.set_cons_succ, i64_w, i32_w]
             rfl
            refine pure_ (i := 10) (N := some 37) (v := ?_) (a' := ?_) #[true, true, true, true, true, true, true, true, true, true, true, false, false, false, false, false, false, false, false, false, false, false, false, false, false, false, false, false, false, false, false] rfl rfl (any_of HT_.out (by kernel_rfl)) (fun _ _ _ h => h) (Or.inl ⟨by rfl, ?_⟩) ?_ ?_
            rotate_left
            ·intro w'
             go_simp
             with_reducible rfl
            rotate_left
            ·simp only [Act.put, List.setIfInBounds_toArray, List.set_cons_zero, List.set_cons_succ, i64_w, i32_w]
             rfl
            refine pure_ (i := 11) (N := some 38) (v := ?_) (a' := ?_) #[true, true, true, true, true, true, true, true, true, true, true, true, false, false, false, false, false, false, false, false, false, false, false, false, false, false, false, false, false, false, false] rfl rfl (any_of HT_.out (by kernel_rfl)) (fun _ _ _ h => h) (Or.inl ⟨by rfl, ?_⟩) ?_ ?_
            rotate_left
            ·intro w'
             go_simp
             with_reducible rfl
            rotate_left
            ·simp only [Act.put, List.setIfInBounds_toArray, List.set_cons_zero, List.set_cons_succ, i64_w, i32_w]
             rfl
            refine pure_ (i := 12) (N := some 39) (v := ?_) (a' := ?_) #[true, true, true, true, true, true, true, true, true, true, true, true, true, false, false, false, false, false, false, false, false, false, false, false, false, false, false, false, false, false, false] rfl rfl (any_of HT_.out (by kernel_rfl)) (fun _ _ _ h => h) (Or.inl ⟨by rfl, ?_⟩) ?_ ?_
            rotate_left
            ·intro w'
             go_simp
             with_reducible rfl
            rotate_left
            ·simp only [Act.put, List.setIfInBounds_toArray, List.set_cons_zero, List.set_cons_succ, i64_w, i32_w]
             rfl
            refine pure_ (i := 13) (N := some 40) (v := undef) (a' := ?_) #[true, true, true, true, true, true, true, true, true, true, true, true, true, true, false, false, false, false, false, false, false, false, false, false, false, false, false, false, false, false, false] rfl rfl (any_of HT_.out (by kernel_rfl)) (fun _ _ _ h => h) (Or.inr ⟨by rfl, rfl⟩) ?_ ?_
            rotate_left
            ·simp only [Act.put, List.setIfInBounds_toArray, List.set_cons_zero, List.set_cons_succ, i64_w, i32_w]
             rfl
            refine pure_ (i := 14) (N := some 41) (v := undef) (a' := ?_) #[true, true, true, true, true, true, true, true, true, true, true, true, true, true, true, false, false, false, false, false, false, false, false, false, false, false, false, false, false, false, false] rfl rfl (any_of HT_.out (by kernel_rfl)) (fun _ _ _ h => h) (Or.inr ⟨by rfl, rfl⟩) ?_ ?_
            rotate_left
            ·simp only [Act.put, List.setIfInBounds_toArray, List.set_cons_zero, List.set_cons_succ, i64_w, i32_w]
             rfl
            refine pure_ (i := 15) (N := some 42) (v := undef) (a' := ?_) #[true, true, true, true, true, true, true, true, true, true, true, true, true, true, true, true, false, false, false, false, false, false, false, false, false, false, false, false, false, false, false] rfl rfl (any_of HT_.out (by kernel_rfl)) (fun _ _ _ h => h) (Or.inr ⟨by rfl, rfl⟩) ?_ ?_
            rotate_left
            ·simp only [Act.put, List.setIfInBounds_toArray, List.set_cons_zero, List.set_cons_succ, i64_w, i32_w]
             rfl
            refine pure_ (i := 16) (N := some 43) (v := undef) (a' := ?_) #[true, true, true, true, true, true, true, true, true, true, true, true, true, true, true, true, true, false, false, false, false, false, false, false, false, false, false, false, false, false, false] rfl rfl (any_of HT_.out (by kernel_rfl)) (fun _ _ _ h => h) (Or.inr ⟨by rfl, rfl⟩) ?_ ?_
            rotate_left
            ·simp only [Act.put, List.setIfInBounds_toArray, List.set_cons_zero, List.set_cons_succ, i64_w, i32_w]
             rfl
            refine pure_ (i := 17) (N := some 44) (v := undef) (a' := ?_) #[true, true, true, true, true, true, true, true, true, true, true, true, true, true, true, true, true, true, false, false, false, false, false, false, false, false, false, false, false, false, false] rfl rfl (any_of HT_.out (by kernel_rfl)) (fun _ _ _ h => h) (Or.inr ⟨by rfl, rfl⟩) ?_ ?_
            rotate_left
            ·simp only [Act.put, List.setIfInBounds_toArray, List.set_cons_zero, List.set_cons_succ, i64_w, i32_w]
             rfl
            refine pure_ (i := 18) (N := some 45) (v := undef) (a' := ?_) #[true, true, true, true, true, true, true, true, true, true, true, true, true, true, true, true, true, true, true, false, false, false, false, false, false, false, false, false, false, false, false] rfl rfl (any_of HT_.out (by kernel_rfl)) (fun _ _ _ h => h) (Or.inr ⟨by rfl, rfl⟩) ?_ ?_
            rotate_left
            ·simp only [Act.put, List.setIfInBounds_toArray, List.set_cons_zero, List.set_cons_succ, i64_w, i32_w]
             rfl
            refine pure_ (i := 19) (N := some 46) (v := ?_) (a' := ?_) #[true, true, true, true, true, true, true, true, true, true, true, true, true, true, true, true, true, true, true, true, false, false, false, false, false, false, false, false, false, false, false] rfl rfl (any_of HT_.out (by kernel_rfl)) (fun _ _ _ h => h) (Or.inl ⟨by rfl, ?_⟩) ?_ ?_
            rotate_left
            ·intro w'
             go_simp
             with_reducible rfl
            rotate_left
            ·simp only [Act.put, List.setIfInBounds_toArray, List.set_cons_zero, List.set_cons_succ, i64_w, i32_w]
             rfl
            refine pure_ (i := 20) (N := some 47) (v := ?_) (a' := ?_) #[true, true, true, true, true, true, true, true, true, true, true, true, true, true, true, true, true, true, true, true, true, false, false, false, false, false, false, false, false, false, false] rfl rfl (any_of HT_.out (by kernel_rfl)) (fun _ _ _ h => h) (Or.inl ⟨by rfl, ?_⟩) ?_ ?_
            rotate_left
            ·intro w'
             go_simp
             with_reducible rfl
            rotate_left
            ·simp only [Act.put, List.setIfInBounds_toArray, List.set_cons_zero, List.set_cons_succ, i64_w, i32_w]
             rfl
            refine pure_ (i := 21) (N := some 48) (v := undef) (a' := ?_) #[true, true, true, true, true, true, true, true, true, true, true, true, true, true, true, true, true, true, true, true, true, true, false, false, false, false, false, false, false, false, false] rfl rfl (any_of HT_.out (by kernel_rfl)) (fun _ _ _ h => h) (Or.inr ⟨by rfl, rfl⟩) ?_ ?_
            rotate_left
            ·simp only [Act.put, List.setIfInBounds_toArray, List.set_cons_zero, List.set_cons_succ, i64_w, i32_w]
             rfl
            refine pure_ (i := 22) (N := some 49) (v := undef) (a' := ?_) #[true, true, true, true, true, true, true, true, true, true, true, true, true, true, true, true, true, true, true, true, true, true, true, false, false, false, false, false, false, false, false] rfl rfl (any_of HT_.out (by kernel_rfl)) (fun _ _ _ h => h) (Or.inr ⟨by rfl, rfl⟩) ?_ ?_
            rotate_left
            ·simp only [Act.put, List.setIfInBounds_toArray, List.set_cons_zero, List.set_cons_succ, i64_w, i32_w]
             rfl
            refine pure_ (i := 23) (N := some 50) (v := undef) (a' := ?_) #[true, true, true, true, true, true, true, true, true, true, true, true, true, true, true, true, true, true, true, true, true, true, true, true, false, false, false, false, false, false, false] rfl rfl (any_of HT_.out (by kernel_rfl)) (fun _ _ _ h => h) (Or.inr ⟨by rfl, rfl⟩) ?_ ?_
            rotate_left
            ·simp only [Act.put, List.setIfInBounds_toArray, List.set_cons_zero, List.set_cons_succ, i64_w, i32_w]
             rfl
            refine pure_ (i := 24) (N := some 51) (v := undef) (a' := ?_) #[true, true, true, true, true, true, true, true, true, true, true, true, true, true, true, true, true, true, true, true, true, true, true, true, true, false, false, false, false, false, false] rfl rfl (any_of HT_.out (by kernel_rfl)) (fun _ _ _ h => h) (Or.inr ⟨by rfl, rfl⟩) ?_ ?_
            rotate_left
            ·simp only [Act.put, List.setIfInBounds_toArray, List.set_cons_zero, List.set_cons_succ, i64_w, i32_w]
             rfl
            refine pure_ (i := 25) (N := some 52) (v := undef) (a' := ?_) #[true, true, true, true, true, true, true, true, true, true, true, true, true, true, true, true, true, true, true, true, true, true, true, true, true, true, false, false, false, false, false] rfl rfl (any_of HT_.out (by kernel_rfl)) (fun _ _ _ h => h) (Or.inr ⟨by rfl, rfl⟩) ?_ ?_
            rotate_left
            ·simp only [Act.put, List.setIfInBounds_toArray, List.set_cons_zero, List.set_cons_succ, i64_w, i32_w]
             rfl
            refine pure_ (i := 26) (N := some 53) (v := undef) (a' := ?_) #[true, true, true, true, true, true, true, true, true, true, true, true, true, true, true, true, true, true, true, true, true, true, true, true, true, true, true, false, false, false, false] rfl rfl (any_of HT_.out (by kernel_rfl)) (fun _ _ _ h => h) (Or.inr ⟨by rfl, rfl⟩) ?_ ?_
            rotate_left
            ·simp only [Act.put, List.setIfInBounds_toArray, List.set_cons_zero, List.set_cons_succ, i64_w, i32_w]
             rfl
            refine pure_ (i := 27) (N := some 54) (v := undef) (a' := ?_) #[true, true, true, true, true, true, true, true, true, true, true, true, true, true, true, true, true, true, true, true, true, true, true, true, true, true, true, true, false, false, false] rfl rfl (any_of HT_.out (by kernel_rfl)) (fun _ _ _ h => h) (Or.inr ⟨by rfl, rfl⟩) ?_ ?_
            rotate_left
            ·simp only [Act.put, List.setIfInBounds_toArray, List.set_cons_zero, List.set_cons_succ, i64_w, i32_w]
             rfl
            refine pure_ (i := 28) (N := some 55) (v := undef) (a' := ?_) #[true, true, true, true, true, true, true, true, true, true, true, true, true, true, true, true, true, true, true, true, true, true, true, true, true, true, true, true, true, false, false] rfl rfl (any_of HT_.out (by kernel_rfl)) (fun _ _ _ h => h) (Or.inr ⟨by rfl, rfl⟩) ?_ ?_
            rotate_left
            ·simp only [Act.put, List.setIfInBounds_toArray, List.set_cons_zero, List.set_cons_succ, i64_w, i32_w]
             rfl
            refine pure_ (i := 29) (N := some 56) (v := undef) (a' := ?_) #[true, true, true, true, true, true, true, true, true, true, true, true, true, true, true, true, true, true, true, true, true, true, true, true, true, true, true, true, true, true, false] rfl rfl (any_of HT_.out (by kernel_rfl)) (fun _ _ _ h => h) (Or.inr ⟨by rfl, rfl⟩) ?_ ?_
            rotate_left
            ·simp only [Act.put, List.setIfInBounds_toArray, List.set_cons_zero, List.set_cons_succ, i64_w, i32_w]
             rfl
            refine pure_ (i := 30) (N := some 57) (v := ?_) (a' := ?_) #[true, true, true, true, true, true, true, true, true, true, true, true, true, true, true, true, true, true, true, true, true, true, true, true, true, true, true, true, true, true, true] rfl rfl (any_of HT_.out (by kernel_rfl)) (fun _ _ _ h => h) (Or.inl ⟨by rfl, ?_⟩) ?_ ?_
            rotate_left
            ·intro w'
             go_simp
             with_reducible rfl
            rotate_left
            ·simp only [Act.put, List.setIfInBounds_toArray, List.set_cons_zero, List.set_cons_succ, i64_w, i32_w]
             rfl
            refine done_ (done_of HT_.out (by kernel_rfl)) ?_
            have hcz28_0 : w27.cell? ⟨gb913, 0, none⟩ = some (.int .i64 x914000_2) := (blk_cell BK913.out 0).trans rfl
            have hcz28_1 : w27.cell? ⟨gb913, 1, none⟩ = some (.slice none 0 0) := (blk_cell BK913.out 1).trans rfl
            have hfz28_0 := blk_frozen BK913.out 0
            have hfz28_1 := blk_frozen BK913.out 1
            try go_wp2
            refine bodyPost_ret (results_ct rfl _ _ gb913 37 #[.int .i64 0, .slice none 0 0] (0, 0) _ rfl (by (with_reducible repeat (refine blk_drew ?_)); refine blk_put (cs := #[.int .i64 0, .slice none 0 0]) ?_ 1 _ rfl; (with_reducible repeat (refine blk_drew ?_)); refine blk_put (cs := #[.int .i64 x914000_2, .slice none 0 0]) ?_ 0 _ rfl; (with_reducible repeat (refine blk_drewN ?_ _)); exact BK913.out) Try.underlying37 rfl (by kernel_rfl)) rfl ?_
            exact ⟨_, by rfl, by exact Kd.R_nil _ _ _ _ _, by repeat ((with_reducible first | exact HB.out | apply pw_below_drewN | refine below_set ?_ GE913.out))⟩
          ·rw [if_neg c13] at H
           exact absurd H (by simp)
         ·rw [if_neg c12] at H
          have c12b0 : (((rd_L2 l1 x23_2).length : Int) == 2) = false := beq_eq_false_iff_ne.mpr c12
          have c12b1 : (((rd_L2 l1 x23_2).length : Int) != 2) = true := bne_iff_ne.mpr c12
          simp only [Option.some.injEq, Prod.mk.injEq] at H
          obtain ⟨rfl, rfl, rfl⟩ := H
          have p915 : 0 ≤ (x23_2 : Int) := of_decide_eq_true (by (with_reducible assumption))
          have q915 : x23_2 < (l1.length : Int) := of_decide_eq_true (by (with_reducible assumption))
          obtain ⟨ad915, A915_0, c915_0, e915, hx915_0, hl915_0, hi915_0⟩ := at_L2 HR1.out x23_2 p915 q915
          cases e915
          replace hx915_0 := (HB.out.cell (World.block_lt_of_cell? w _ hx915_0)).trans hx915_0
          have HR915_0 := Aside0.mk hi915_0
          have HC915_0 := Aside0.mk hl915_0
          clear hi915_0 hl915_0
          replace p915 := eq_true p915
          replace q915 := eq_true q915
          try go_wp2
          have n0_ := Aside0.mk (blk_drew BK913.out)
          have n1_ := Aside0.mk (below_drew1 HB.out)
          clear BK913
          clear HB
          have BK913 := n0_
          have HB := n1_
          clear n0_ n1_
          refine start_ (n := 31) (S := fun w' => True) (ds := []) #[false, false, false, false, false, false, false, false, false, false, false, false, false, false, false, false, false, false, false, false, false, false, false, false, false, false, false, false, false, false, false] (by kernel_rfl) rfl rfl trivial (fun hHeld => ?_); refine with_tabW impl_SpaceOfClauses.tab6 impl_SpaceOfClauses.bits6 (fun HT_ HW_ => ?_)
          generalize wr.drew = w29 at BK913 HB hHeld ⊢
          refine pure_ (i := 0) (N := some 27) (v := ?_) (a' := ?_) #[true, false, false, false, false, false, false, false, false, false, false, false, false, false, false, false, false, false, false, false, false, false, false, false, false, false, false, false, false, false, false] rfl rfl (any_of HT_.out (by kernel_rfl)) (fun _ _ _ h => h) (Or.inl ⟨by rfl, ?_⟩) ?_ ?_
          rotate_left
          ·intro w'
           go_simp
           with_reducible rfl
          rotate_left
          ·simp only [Act.put, List.setIfInBounds_toArray, List.set_cons_zero, List.set_cons_succ, i64_w, i32_w]
           rfl
          refine pure_ (i := 1) (N := some 28) (v := ?_) (a' := ?_) #[true, true, false, false, false, false, false, false, false, false, false, false, false, false, false, false, false, false, false, false, false, false, false, false, false, false, false, false, false, false, false] rfl rfl (any_of HT_.out (by kernel_rfl)) (fun _ _ _ h => h) (Or.inl ⟨by rfl, ?_⟩) ?_ ?_
          rotate_left
          ·intro w'
           go_simp
           with_reducible rfl
          rotate_left
          ·simp only [Act.put, List.setIfInBounds_toArray, List.set_cons_zero, List.set_cons_succ, i64_w, i32_w]
           rfl
          refine pure_ (i := 2) (N := some 29) (v := ?_) (a' := ?_) #[true, true, true, false, false, false, false, false, false, false, false, false, false, false, false, false, false, false, false, false, false, false, false, false, false, false, false, false, false, false, false] rfl rfl (any_of HT_.out (by kernel_rfl)) (fun _ _ _ h => h) (Or.inl ⟨by rfl, ?_⟩) ?_ ?_
          rotate_left
          ·intro w'
           go_simp
           with_reducible rfl
          rotate_left
          ·simp only [Act.put, List.setIfInBounds_toArray, List.set_cons_zero, List.set_cons_succ, i64_w, i32_w]
           rfl
          refine pure_ (i := 3) (N := some 30) (v := ?_) (a' := ?_) #[true, true, true, true, false, false, false, false, false, false, false, false, false, false, false, false, false, false, false, false, false, false, false, false, false, false, false, false, false, false, false] rfl rfl (any_of HT_.out (by kernel_rfl)) (fun _ _ _ h => h) (Or.inl ⟨by rfl, ?_⟩) ?_ ?_
          rotate_left
          ·intro w'
           go_simp
           with_reducible rfl
          rotate_left
          ·simp only [Act.put, List.setIfInBounds_toArray, List.set_cons_zero, List.set_cons_succ, i64_w, i32_w]
           rfl
          refine pure_ (i := 4) (N := some 31) (v := undef) (a' := ?_) #[true, true, true, true, true, false, false, false, false, false, false, false, false, false, false, false, false, false, false, false, false, false, false, false, false, false, false, false, false, false, false] rfl rfl (any_of HT_.out (by kernel_rfl)) (fun _ _ _ h => h) (Or.inr ⟨by rfl, rfl⟩) ?_ ?_
          rotate_left
          ·simp only [Act.put, List.setIfInBounds_toArray, List.set_cons_zero, List.set_cons_succ, i64_w, i32_w]
           rfl
          refine pure_ (i := 5) (N := some 32) (v := undef) (a' := ?_) #[true, true, true, true, true, true, false, false, false, false, false, false, false, false, false, false, false, false, false, false, false, false, false, false, false, false, false, false, false, false, false] rfl rfl (any_of HT_.out (by kernel_rfl)) (fun _ _ _ h => h) (Or.inr ⟨by rfl, rfl⟩) ?_ ?_
          rotate_left
          ·simp only [Act.put, List.setIfInBounds_toArray, List.set_cons_zero, List.set_cons_succ, i64_w, i32_w]
           rfl
          refine pure_ (i := 6) (N := some 33) (v := undef) (a' := ?_) #[true, true, true, true, true, true, true, false, false, false, false, false, false, false, false, false, false, false, false, false, false, false, false, false, false, false, false, false, false, false, false] rfl rfl (any_of HT_.out (by kernel_rfl)) (fun _ _ _ h => h) (Or.inr ⟨by rfl, rfl⟩) ?_ ?_
          rotate_left
          ·simp only [Act.put, List.setIfInBounds_toArray, List.set_cons_zero, List.set_cons_succ, i64_w, i32_w]
           rfl
          refine pure_ (i := 7) (N := some 34) (v := undef) (a' := ?_) #[true, true, true, true, true, true, true, true, false, false, false, false, false, false, false, false, false, false, false, false, false, false, false, false, false, false, false, false, false, false, false] rfl rfl (any_of HT_.out (by kernel_rfl)) (fun _ _ _ h => h) (Or.inr ⟨by rfl, rfl⟩) ?_ ?_
          rotate_left
          ·simp only [Act.put, List.setIfInBounds_toArray, List.set_cons_zero, List.set_cons_succ, i64_w, i32_w]
           rfl
          refine pure_ (i := 8) (N := some 35) (v := undef) (a' := ?_) #[true, true, true, true, true, true, true, true, true, false, false, false, false, false, false, false, false, false, false, false, false, false, false, false, false, false, false, false, false, false, false] rfl rfl (any_of HT_.out (by kernel_rfl)) (fun _ _ _ h => h) (Or.inr ⟨by rfl, rfl⟩) ?_ ?_
          rotate_left
          ·simp only [Act.put, List.setIfInBounds_toArray, List.set_cons_zero, List.set_cons_succ, i64_w, i32_w]
           rfl
          refine pure_ (i := 9) (N := some 36) (v := undef) (a' := ?_) #[true, true, true, true, true, true, true, true, true, true, false, false, false, false, false, false, false, false, false, false, false, false, false, false, false, false, false, false, false, false, false] rfl rfl (any_of HT_.out (by kernel_rfl)) (fun _ _ _ h => h) (Or.inr ⟨by rfl, rfl⟩) ?_ ?_
          rotate_left
          ·simp only [Act.put, List.setIfInBounds_toArray, List.set_cons_zero, List.set_cons_succ, i64_w, i32_w]
           rfl
          refine pure_ (i := 10) (N := some 37) (v := undef) (a' := ?_) #[true, true, true, true, true, true, true, true, true, true, true, false, false, false, false, false, false, false, false, false, false, false, false, false, false, false, false, false, false, false, false] rfl rfl (any_of HT_.out (by kernel_rfl)) (fun _ _ _ h => h) (Or.inr ⟨by rfl, rfl⟩) ?_ ?_
          rotate_left
          ·simp only [Act.put, List.setIfInBounds_toArray, List.set_cons_zero, List.set_cons_succ, i64_w, i32_w]
           rfl
          refine pure_ (i := 11) (N := some 38) (v := ?_) (a' := ?_) #[true, true, true, true, true, true, true, true, true, true, true, true, false, false, false, false, false, false, false, false, false, false, false, false, false, false, false, false, false, false, false] rfl rfl (any_of HT_.out (by kernel_rfl)) (fun _ _ _ h => h) (Or.inl ⟨by rfl, ?_⟩) ?_ ?_
          rotate_left
          ·intro w'
           go_simp
           with_reducible rfl
          rotate_left
          ·simp only [Act.put, List.setIfInBounds_toArray, List.set_cons_zero, List.set_cons_succ, i64_w, i32_w]
           rfl
          refine pure_ (i := 12) (N := some 39) (v := ?_) (a' := ?_) #[true, true, true, true, true, true, true, true, true, true, true, true, true, false, false, false, false, false, false, false, false, false, false, false, false, false, false, false, false, false, false] rfl rfl (any_of HT_.out (by kernel_rfl)) (fun _ _ _ h => h) (Or.inl ⟨by rfl, ?_⟩) ?_ ?_
          rotate_left
          ·intro w'
           go_simp
           with_reducible rfl
          rotate_left
          ·simp only [Act.put, List.setIfInBounds_toArray, List.set_cons_zero, List.set_cons_succ, i64_w, i32_w]
           rfl
          refine pure_ (i := 13) (N := some 40) (v := undef) (a' := ?_) #[true, true, true, true, true, true, true, true, true, true, true, true, true, true, false, false, false, false, false, false, false, false, false, false, false, false, false, false, false, false, false] rfl rfl (any_of HT_.out (by kernel_rfl)) (fun _ _ _ h => h) (Or.inr ⟨by rfl, rfl⟩) ?_ ?_
          rotate_left
          ·simp only [Act.put, List.setIfInBounds_toArray, List.set_cons_zero, List.set_cons_succ, i64_w, i32_w]
           rfl
          refine pure_ (i := 14) (N := some 41) (v := undef) (a' := ?_) #[true, true, true, true, true, true, true, true, true, true, true, true, true, true, true, false, false, false, false, false, false, false, false, false, false, false, false, false, false, false, false] rfl rfl (any_of HT_.out (by kernel_rfl)) (fun _ _ _ h => h) (Or.inr ⟨by rfl, rfl⟩) ?_ ?_
          rotate_left
          ·simp only [Act.put, List.setIfInBounds_toArray, List.set_cons_zero, List.set_cons_succ, i64_w, i32_w]
           rfl
          refine pure_ (i := 15) (N := some 42) (v := undef) (a' := ?_) #[true, true, true, true, true, true, true, true, true, true, true, true, true, true, true, true, false, false, false, false, false, false, false, false, false, false, false, false, false, false, false] rfl rfl (any_of HT_.out (by kernel_rfl)) (fun _ _ _ h => h) (Or.inr ⟨by rfl, rfl⟩) ?_ ?_
          rotate_left
          ·simp only [Act.put, List.setIfInBounds_toArray, List.set_cons_zero, List.set_cons_succ, i64_w, i32_w]
           rfl
          refine pure_ (i := 16) (N := some 43) (v := undef) (a' := ?_) #[true, true, true, true, true, true, true, true, true, true, true, true, true, true, true, true, true, false, false, false, false, false, false, false, false, false, false, false, false, false, false] rfl rfl (any_of HT_.out (by kernel_rfl)) (fun _ _ _ h => h) (Or.inr ⟨by rfl, rfl⟩) ?_ ?_
          rotate_left
          ·simp only [Act.put, List.setIfInBounds_toArray, List.set_cons_zero, List.set_cons_succ, i64_w, i32_w]
           rfl
          refine pure_ (i := 17) (N := some 44) (v := undef) (a' := ?_) #[true, true, true, true, true, true, true, true, true, true, true, true, true, true, true, true, true, true, false, false, false, false, false, false, false, false, false, false, false, false, false] rfl rfl (any_of HT_.out (by kernel_rfl)) (fun _ _ _ h => h) (Or.inr ⟨by rfl, rfl⟩) ?_ ?_
          rotate_left
          ·simp only [Act.put, List.setIfInBounds_toArray, List.set_cons_zero, List.set_cons_succ, i64_w, i32_w]
           rfl
          refine pure_ (i := 18) (N := some 45) (v := undef) (a' := ?_) #[true, true, true, true, true, true, true, true, true, true, true, true, true, true, true, true, true, true, true, false, false, false, false, false, false, false, false, false, false, false, false] rfl rfl (any_of HT_.out (by kernel_rfl)) (fun _ _ _ h => h) (Or.inr ⟨by rfl, rfl⟩) ?_ ?_
          rotate_left
          ·simp only [Act.put, List.setIfInBounds_toArray, List.set_cons_zero, List.set_cons_succ, i64_w, i32_w]
           rfl
          refine pure_ (i := 19) (N := some 46) (v := ?_) (a' := ?_) #[true, true, true, true, true, true, true, true, true, true, true, true, true, true, true, true, true, true, true, true, false, false, false, false, false, false, false, false, false, false, false] rfl rfl (any_of HT_.out (by kernel_rfl)) (fun _ _ _ h => h) (Or.inl ⟨by rfl, ?_⟩) ?_ ?_
          rotate_left
          ·intro w'
           go_simp
           with_reducible rfl
          rotate_left
          ·simp only [Act.put, List.setIfInBounds_toArray, List.set_cons_zero, List.set_cons_succ, i64_w, i32_w]
           rfl
          refine pure_ (i := 20) (N := some 47) (v := ?_) (a' := ?_) #[true, true, true, true, true, true, true, true, true, true, true, true, true, true, true, true, true, true, true, true, true, false, false, false, false, false, false, false, false, false, false] rfl rfl (any_of HT_.out (by kernel_rfl)) (fun _ _ _ h => h) (Or.inl ⟨by rfl, ?_⟩) ?_ ?_
          rotate_left
          ·intro w'
           go_simp
           with_reducible rfl
          rotate_left
          ·simp only [Act.put, List.setIfInBounds_toArray, List.set_cons_zero, List.set_cons_succ, i64_w, i32_w]
           rfl
          refine pure_ (i := 21) (N := some 48) (v := undef) (a' := ?_) #[true, true, true, true, true, true, true, true, true, true, true, true, true, true, true, true, true, true, true, true, true, true, false, false, false, false, false, false, false, false, false] rfl rfl (any_of HT_.out (by kernel_rfl)) (fun _ _ _ h => h) (Or.inr ⟨by rfl, rfl⟩) ?_ ?_
          rotate_left
          ·simp only [Act.put, List.setIfInBounds_toArray, List.set_cons_zero, List.set_cons_succ, i64_w, i32_w]
           rfl
          refine pure_ (i := 22) (N := some 49) (v := undef) (a' := ?_) #[true, true, true, true, true, true, true, true, true, true, true, true, true, true, true, true, true, true, true, true, true, true, true, false, false, false, false, false, false, false, false] rfl rfl (any_of HT_.out (by kernel_rfl)) (fun _ _ _ h => h) (Or.inr ⟨by rfl, rfl⟩) ?_ ?_
          rotate_left
          ·simp only [Act.put, List.setIfInBounds_toArray, List.set_cons_zero, List.set_cons_succ, i64_w, i32_w]
           rfl
          refine pure_ (i := 23) (N := some 50) (v := undef) (a' := ?_) #[true, true, true, true, true, true, true, true, true, true, true, true, true, true, true, true, true, true, true, true, true, true, true, true, false, false, false, false, false, false, false] rfl rfl (any_of HT_.out (by kernel_rfl)) (fun _ _ _ h => h) (Or.inr ⟨by rfl, rfl⟩) ?_ ?_
          rotate_left
          ·simp only [Act.put, List.setIfInBounds_toArray, List.set_cons_zero, List.set_cons_succ, i64_w, i32_w]
           rfl
          refine pure_ (i := 24) (N := some 51) (v := undef) (a' := ?_) #[true, true, true, true, true, true, true, true, true, true, true, true, true, true, true, true, true, true, true, true, true, true, true, true, true, false, false, false, false, false, false] rfl rfl (any_of HT_.out (by kernel_rfl)) (fun _ _ _ h => h) (Or.inr ⟨by rfl, rfl⟩) ?_ ?_
          rotate_left
          ·simp only [Act.put, List.setIfInBounds_toArray, List.set_cons_zero, List.set_cons_succ, i64_w, i32_w]
           rfl
          refine pure_ (i := 25) (N := some 52) (v := undef) (a' := ?_) #[true, true, true, true, true, true, true, true, true, true, true, true, true, true, true, true, true, true, true, true, true, true, true, true, true, true, false, false, false, false, false] rfl rfl (any_of HT_.out (by kernel_rfl)) (fun _ _ _ h => h) (Or.inr ⟨by rfl, rfl⟩) ?_ ?_
          rotate_left
          ·simp only [Act.put, List.setIfInBounds_toArray, List.set_cons_zero, List.set_cons_succ, i64_w, i32_w]
           rfl
          refine pure_ (i := 26) (N := some 53) (v := undef) (a' := ?_) #[true, true, true, true, true, true, true, true, true, true, true, true, true, true, true, true, true, true, true, true, true, true, true, true, true, true, true, false, false, false, false] rfl rfl (any_of HT_.out (by kernel_rfl)) (fun _ _ _ h => h) (Or.inr ⟨by rfl, rfl⟩) ?_ ?_
          rotate_left
          ·simp only [Act.put, List.setIfInBounds_toArray, List.set_cons_zero, List.set_cons_succ, i64_w, i32_w]
           rfl
          refine pure_ (i := 27) (N := some 54) (v := undef) (a' := ?_) #[true, true, true, true, true, true, true, true, true, true, true, true, true, true, true, true, true, true, true, true, true, true, true, true, true, true, true, true, false, false, false] rfl rfl (any_of HT_.out (by kernel_rfl)) (fun _ _ _ h => h) (Or.inr ⟨by rfl, rfl⟩) ?_ ?_
          rotate_left
          ·simp only [Act.put, List.setIfInBounds_toArray, List.set_cons_zero, List.set_cons_succ, i64_w, i32_w]
           rfl
          refine pure_ (i := 28) (N := some 55) (v := undef) (a' := ?_) #[true, true, true, true, true, true, true, true, true, true, true, true, true, true, true, true, true, true, true, true, true, true, true, true, true, true, true, true, true, false, false] rfl rfl (any_of HT_.out (by kernel_rfl)) (fun _ _ _ h => h) (Or.inr ⟨by rfl, rfl⟩) ?_ ?_
          rotate_left
          ·simp only [Act.put, List.setIfInBounds_toArray, List.set_cons_zero, List.set_cons_succ, i64_w, i32_w]
           rfl
          refine pure_ (i := 29) (N := some 56) (v := undef) (a' := ?_) #[true, true, true, true, true, true, true, true, true, true, true, true, true, true, true, true, true, true, true, true, true, true, true, true, true, true, true, true, true, true, false] rfl rfl (any_of HT_.out (by kernel_rfl)) (fun _ _ _ h => h) (Or.inr ⟨by rfl, rfl⟩) ?_ ?_
          rotate_left
          ·simp only [Act.put, List.setIfInBounds_toArray, List.set_cons_zero, List.set_cons_succ, i64_w, i32_w]
           rfl
          refine pure_ (i := 30) (N := some 57) (v := ?_) (a' := ?_) #[true, true, true, true, true, true, true, true, true, true, true, true, true, true, true, true, true, true, true, true, true, true, true, true, true, true, true, true, true, true, true] rfl rfl (any_of HT_.out (by kernel_rfl)) (fun _ _ _ h => h) (Or.inl ⟨by rfl, ?_⟩) ?_ ?_
          rotate_left
          ·intro w'
           go_simp
           with_reducible rfl
          rotate_left
          ·simp only [Act.put, List.setIfInBounds_toArray, List.set_cons_zero, List.set_cons_succ, i64_w, i32_w]
           rfl
          refine done_ (done_of HT_.out (by kernel_rfl)) ?_
          have hcz30_0 : w29.cell? ⟨gb913, 0, none⟩ = some (.int .i64 x914000_2) := (blk_cell BK913.out 0).trans rfl
          have hcz30_1 : w29.cell? ⟨gb913, 1, none⟩ = some (.slice none 0 0) := (blk_cell BK913.out 1).trans rfl
          have hfz30_0 := blk_frozen BK913.out 0
          have hfz30_1 := blk_frozen BK913.out 1
          try go_wp2
          refine bodyPost_ret (results_ct rfl _ _ gb913 37 #[.int .i64 0, .slice none 0 0] (0, 0) _ rfl (by (with_reducible repeat (refine blk_drew ?_)); refine blk_put (cs := #[.int .i64 0, .slice none 0 0]) ?_ 1 _ rfl; (with_reducible repeat (refine blk_drew ?_)); refine blk_put (cs := #[.int .i64 x914000_2, .slice none 0 0]) ?_ 0 _ rfl; (with_reducible repeat (refine blk_drew ?_)); exact BK913.out) Try.underlying37 rfl (by kernel_rfl)) rfl ?_
          exact ⟨_, by rfl, by exact Kd.R_nil _ _ _ _ _, by repeat ((with_reducible first | exact HB.out | refine below_set ?_ GE913.out))⟩
        ·rw [if_neg c11] at H
         exact absurd H (by simp)
       ·rw [if_neg c10] at H
        exact absurd H (by simp)
      ·rw [if_neg c9] at H
       have c9b0 : decide (x23_2 < (l1.length : Int)) = false := decide_eq_false c9
       clear c9
       obtain ⟨y922, hy922⟩ : ∃ y_ : List Bool, y_ = (List.replicate 128 false) := ⟨_, rfl⟩
       replace H : (if 0 < (y922.length : Int) then (impl_SpaceOfClauses.l1 k2 a0 l1 (y922.set (0 : Int).toNat true) 0) else (none)) = some (r1, r2, r3) := by (have H2_ := (Option.bind_some _ _).symm.trans H; rw [hy922]; with_reducible exact H2_)
       have Ny922 := Aside0.mk hy922
       clear hy922
       by_cases c31 : 0 < (y922.length : Int)
       ·rw [if_pos c31] at H
        have c31b0 : decide (0 < (y922.length : Int)) = true := decide_eq_true c31
        have c31b1 : decide (0 < y922.length) = true := decide_eq_true (by omega)
        clear c31
        obtain ⟨y925, hy925⟩ : ∃ y_ : List Bool, y_ = (y922.set (0 : Int).toNat true) := ⟨_, rfl⟩
        replace H : (impl_SpaceOfClauses.l1 k2 a0 l1 y925 0) = some (r1, r2, r3) := by (rw [hy925]; with_reducible exact H)
        have Ny925 := Aside0.mk hy925
        clear hy925
        have H' := Aside0.mk H
        clear H
        go_wp2_with (first | ((with_reducible refine gate_dst (N := 60) rfl ?_); (try (refine gate_guard (by rfl) ?_; dsimp only)); refine fam_build 91 rfl (N := 60) rfl rfl (fun W_ => by kernel_rfl) ?_) | ((with_reducible refine gate_dst (N := 61) rfl ?_); (try (refine gate_guard (by rfl) ?_; dsimp only)); refine fam_new _ 91 rfl (N := 61) rfl _ rfl rfl (Below.refl _ _) (Nat.le_refl _) ?_; intro v923 w33 ho34 hb hg_ hnew_; clear hg_ hnew_; (rw [← Ny922.out] at ho34); have n0_ := Aside0.mk (Kd.R_lower ho34 (below_size (by repeat ((with_reducible exact HB.out))))); have n1_ := Aside0.mk (blk_below (g := gb913) (o := .cells #[.int .i64 x914000_2, .slice none 0 0] 37 (0, 0)) (by (with_reducible repeat (refine blk_drew ?_)); exact BK913.out) hb); have n2_ := Aside0.mk (below_step (by repeat ((with_reducible exact HB.out))) hb); clear BK913; clear HB; have HO924 := n0_; have BK913 := n1_; have HB := n2_; clear n0_ n1_ n2_; clear hb ho34; have p32 : 0 ≤ (0 : Int) := (by omega); have q32 : (0 : Int) < ((y922.length : Int) : Int) := of_decide_eq_true (by (with_reducible assumption)); have qi32 : (0 < y922.length) = True := eq_true (by omega); obtain ⟨go32, co32, eo32, gb32, gl32, cl32, HG32⟩ := Kd.R_form HO924.out (by omega); (cases eo32); have GB32 := Aside0.mk gb32; have GG32 := Aside0.mk HG32; clear gb32 gl32 HG32; (try simp only [asP_slice]); obtain ⟨hx32_0, hf32_0⟩ := Kd.R_celln false HO924.out (0 : Int) p32 q32; (try rw [show ((0 : Int)).toNat = 0 from rfl] at hx32_0); (try rw [show ((0 : Int)).toNat = 0 from rfl] at hf32_0); replace p32 := eq_true p32; replace q32 := eq_true q32; obtain ⟨hy35_, hz35_⟩ := Kd.R_celln false HO924.out (0 : Int) (by omega) (of_decide_eq_true (by (with_reducible assumption))); (try rw [show ((0 : Int)).toNat = 0 from rfl] at hy35_); (try rw [show ((0 : Int)).toNat = 0 from rfl] at hz35_); have HP35 := Kd.R_putg HO924.out (0 : Int) true) | ((with_reducible refine gate_store (t := 4) (p := 64) rfl ?_); refine store_event (t := 4) (p := 64) (v := ?vo_w36) (w1 := (w33.setCell ⟨go32, (0 : Int).toNat, none⟩ (.bool true))) ?hg ?ho ?hn ?hr ?_; (case ho => rfl); (case hg => rfl); (case hn => rfl); (case hr => (go_simp; done)); intro w36 hw; have hg : w33.grownBy w36 (some go32) := (by rw [hw]; exact HP35.2); have hp_ : Kd.R Kd.bool 91 w36 w.heap.size (fun _ => True) (.slice (some ⟨go32, 0, none⟩) y922.length co32) y925 := (by rw [hw, Ny925.out]; exact HP35.1); clear HP35; have n0_ := Aside0.mk (blk_grown (g := gb913) (o := .cells #[.int .i64 x914000_2, .slice none 0 0] 37 (0, 0)) (by (with_reducible repeat (refine blk_drew ?_)); exact BK913.out) hg (Kd.R_ne HO924.out BK913.out (by decide))); have n1_ := Aside0.mk (hp_); have n2_ := Aside0.mk ((by rw [hw]; exact below_set (HB.out) GB32.out : Below w.heap.size w w36)); clear BK913; clear HO924; clear HB; have BK913 := n0_; have HO924 := n1_; have HB := n2_; clear n0_ n1_ n2_; clear hg hw hp_))
        go_loopg [65] k2 (fun kq v65 w' => ∃ (x8_3 : List Bool) (x65_3 : Int), v65 = .int .i64 x65_3 ∧ Aside0 (impl_SpaceOfClauses.l1 kq a0 l1 x8_3 x65_3 = some (r1, r2, r3)) ∧ Aside0 (kq ≤ k2) ∧ Aside0 (Kd.R Kd.bool 91 w' w.heap.size (fun _ => True) (.slice (some ⟨go32, 0, none⟩) y922.length co32) x8_3) ∧ Aside0 (w'.heap[gb913]? = some (.cells #[.int .i64 x914000_2, (.slice none 0 0)] 37 (0, 0))) ∧ Aside0 (Below w.heap.size w w'))
        case atStart => exact ⟨(y925), (0), (by rfl), H', ⟨Nat.le_refl _⟩, ⟨by (with_reducible repeat (apply Kd.R_drew)); exact HO924.out⟩, ⟨by (with_reducible repeat (refine blk_drew ?_)); exact BK913.out⟩, ⟨by repeat ((with_reducible exact HB.out))⟩⟩
        case round =>
         clear H'
         try clear c1
         try clear p2
         try clear c3
         try clear p3
         try clear q3
         try clear hx3
         try clear qi3
         try clear hf3
         try clear c6
         try clear p6
         try clear c7
         try clear c9
         try clear c9b0
         try clear p9
         try clear q9
         try clear hx9
         try clear qi9
         try clear c10
         try clear c11
         try clear c12
         try clear c12b0
         try clear c12b1
         try clear c13
         try clear c15
         try clear c16
         try clear c31
         try clear c31b0
         try clear c31b1
         try clear p32
         try clear q32
         try clear hx32
         try clear qi32
         try clear hf32
         try clear hcz26_0
         try clear hcz26_1
         try clear hcz28_0
         try clear hcz28_1
         try clear hcz30_0
         try clear hcz30_1
         try clear hfz26_0
         try clear hfz26_1
         try clear hfz28_0
         try clear hfz28_1
         try clear hfz30_0
         try clear hfz30_1
         try clear hx32_0
         try clear hx915_0
         try clear hx916_0
         try clear p32
         try clear p915
         try clear p916
         try clear q32
         try clear q915
         try clear q916
         obtain ⟨x8_3, x65_3, rfl, HA, HK3, HO_8, BK913, HB⟩ := hrel
         have hl8_3 := (Kd.R_reads' HO_8.out).1
         rw [hl8_3] at HO_8
         skip
         skip
         cases gk with
         | zero => exact absurd HA.out (by simp [impl_SpaceOfClauses.l1])
         | succ k3 =>
          have H := HA.out
          clear HA
          simp only [impl_SpaceOfClauses.l1] at H
          by_cases c37 : x65_3 < 128
          ·rw [if_pos c37] at H
           have c37b0 : decide (x65_3 < 128) = true := decide_eq_true c37
           clear c37
           have H' := Aside0.mk H
           clear H
           go_wp2
           go_loopg [70] k3 (fun kq v70 w' => ∃ (x8_4 : List Bool) (x70_4 : Int), v70 = .int .i64 x70_4 ∧ Aside0 (impl_SpaceOfClauses.l2 kq a0 l1 x8_4 x65_3 x65_3 l1 (l1.length : Int) x70_4 = some (r1, r2, r3)) ∧ Aside0 (kq ≤ k3) ∧ Aside0 (Kd.R Kd.bool 91 w' w.heap.size (fun _ => True) (.slice (some ⟨go32, 0, none⟩) x8_3.length co32) x8_4) ∧ Aside0 (w'.heap[gb913]? = some (.cells #[.int .i64 x914000_2, (.slice none 0 0)] 37 (0, 0))) ∧ Aside0 (Below w.heap.size w w'))
           case atStart => exact ⟨(x8_3), (0), (by rfl), H', ⟨Nat.le_refl _⟩, ⟨by (with_reducible repeat (apply Kd.R_drew)); exact HO_8.out⟩, ⟨by (with_reducible repeat (refine blk_drew ?_)); exact BK913.out⟩, ⟨by repeat ((with_reducible exact HB.out))⟩⟩
           case round =>
            clear H'
            try clear c1
            try clear p2
            try clear c3
            try clear p3
            try clear q3
            try clear hx3
            try clear qi3
            try clear hf3
            try clear c6
            try clear p6
            try clear c7
            try clear c9
            try clear c9b0
            try clear p9
            try clear q9
            try clear hx9
            try clear qi9
            try clear c10
            try clear c11
            try clear c12
            try clear c12b0
            try clear c12b1
            try clear c13
            try clear c15
            try clear c16
            try clear c31
            try clear c31b0
            try clear c31b1
            try clear p32
            try clear q32
            try clear hx32
            try clear qi32
            try clear hf32
            try clear c37
            try clear c37b0
            try clear hcz26_0
            try clear hcz26_1
            try clear hcz28_0
            try clear hcz28_1
            try clear hcz30_0
            try clear hcz30_1
            try clear hfz26_0
            try clear hfz26_1
            try clear hfz28_0
            try clear hfz28_1
            try clear hfz30_0
            try clear hfz30_1
            try clear hx32_0
            try clear hx915_0
            try clear hx916_0
            try clear p2
            try clear p3
            try clear p32
            try clear p6
            try clear p9
            try clear p915
            try clear p916
            try clear q3
            try clear q32
            try clear q9
            try clear q915
            try clear q916
            obtain ⟨x8_4, x70_4, rfl, HA, HK4, HO_8, BK913, HB⟩ := hrel
            have hl8_4 := (Kd.R_reads' HO_8.out).1
            rw [hl8_4] at HO_8
            skip
            skip
            cases gk with
            | zero => exact absurd HA.out (by simp [impl_SpaceOfClauses.l2])
            | succ k4 =>
             have H := HA.out
             clear HA
             simp only [impl_SpaceOfClauses.l2] at H
             by_cases c38 : x70_4 < (l1.length : Int)
             ·rw [if_pos c38] at H
              have c38b0 : decide (x70_4 < (l1.length : Int)) = true := decide_eq_true c38
              clear c38
              by_cases c39 : 0 ≤ x70_4
              ·rw [if_pos c39] at H
               have c39b0 : decide (0 ≤ x70_4) = true := decide_eq_true c39
               clear c39
               by_cases c40 : x70_4 < (l1.length : Int)
               ·rw [if_pos c40] at H
                have c40b0 : decide (x70_4 < (l1.length : Int)) = true := decide_eq_true c40
                clear c40
                by_cases c41 : 0 ≤ x65_3
                ·rw [if_pos c41] at H
                 have c41b0 : decide (0 ≤ x65_3) = true := decide_eq_true c41
                 clear c41
                 by_cases c42 : x65_3 < (x8_4.length : Int)
                 ·rw [if_pos c42] at H
                  have c42b0 : decide (x65_3 < (x8_4.length : Int)) = true := decide_eq_true c42
                  clear c42
                  by_cases c43 : x65_3 < 128
                  ·rw [if_pos c43] at H
                   have c43b0 : decide (x65_3 < 128) = true := decide_eq_true c43
                   clear c43
                   obtain ⟨bq44, hbq44⟩ : ∃ b_ : Bool, b_ = (rdOf false x8_4 x65_3) := ⟨_, rfl⟩
                   replace H : (if bq44 = true then (if 1 < ((rd_L2 l1 x70_4).length : Int) then ((impl_part.f (rd (rd_L2 l1 x70_4) 1) x65_3).bind fun t934 => (if t934 = true then (if 0 < ((rd_L2 l1 x70_4).length : Int) then (if 0 ≤ (rd (rd_L2 l1 x70_4) 0) then (if 0 ≤ (Go.bits .or .i64 x65_3 (shl .i64 1 (rd (rd_L2 l1 x70_4) 0))) then (if (Go.bits .or .i64 x65_3 (shl .i64 1 (rd (rd_L2 l1 x70_4) 0))) < (x8_4.length : Int) then (if (Go.bits .or .i64 x65_3 (shl .i64 1 (rd (rd_L2 l1 x70_4) 0))) < 128 then (impl_SpaceOfClauses.l2 k4 a0 l1 (x8_4.set ((Go.bits .or .i64 x65_3 (shl .i64 1 (rd (rd_L2 l1 x70_4) 0))) : Int).toNat true) x65_3 x65_3 l1 (l1.length : Int) (wrap64 (x70_4 + 1))) else (none)) else (none)) else (none)) else (none)) else (none)) else (impl_SpaceOfClauses.l2 k4 a0 l1 x8_4 x65_3 x65_3 l1 (l1.length : Int) (wrap64 (x70_4 + 1))))) else (none)) else (impl_SpaceOfClauses.l2 k4 a0 l1 x8_4 x65_3 x65_3 l1 (l1.length : Int) (wrap64 (x70_4 + 1)))) = some (r1, r2, r3) := by rw [← hbq44] at H; exact H
                   have Nbq44 := Aside0.mk hbq44
                   clear hbq44
                   by_cases c45 : bq44 = true
                   ·subst c45
                    have H1 : (if 1 < ((rd_L2 l1 x70_4).length : Int) then ((impl_part.f (rd (rd_L2 l1 x70_4) 1) x65_3).bind fun t934 => (if t934 = true then (if 0 < ((rd_L2 l1 x70_4).length : Int) then (if 0 ≤ (rd (rd_L2 l1 x70_4) 0) then (if 0 ≤ (Go.bits .or .i64 x65_3 (shl .i64 1 (rd (rd_L2 l1 x70_4) 0))) then (if (Go.bits .or .i64 x65_3 (shl .i64 1 (rd (rd_L2 l1 x70_4) 0))) < (x8_4.length : Int) then (if (Go.bits .or .i64 x65_3 (shl .i64 1 (rd (rd_L2 l1 x70_4) 0))) < 128 then (impl_SpaceOfClauses.l2 k4 a0 l1 (x8_4.set ((Go.bits .or .i64 x65_3 (shl .i64 1 (rd (rd_L2 l1 x70_4) 0))) : Int).toNat true) x65_3 x65_3 l1 (l1.length : Int) (wrap64 (x70_4 + 1))) else (none)) else (none)) else (none)) else (none)) else (none)) else (impl_SpaceOfClauses.l2 k4 a0 l1 x8_4 x65_3 x65_3 l1 (l1.length : Int) (wrap64 (x70_4 + 1))))) else (none)) = some (r1, r2, r3) := by rw [if_pos rfl] at H; exact H
                    clear H
                    have H := H1
                    clear H1
                    by_cases c46 : 1 < ((rd_L2 l1 x70_4).length : Int)
                    ·rw [if_pos c46] at H
                     have c46b0 : decide (1 < ((rd_L2 l1 x70_4).length : Int)) = true := decide_eq_true c46
                     have c46b1 : decide (1 < (rd_L2 l1 x70_4).length) = true := decide_eq_true (by omega)
                     clear c46
                     replace H := Option.bind_eq_some_iff.mp H
                     obtain ⟨t934, A470, H⟩ := H
                     replace H : (if t934 = true then (if 0 < ((rd_L2 l1 x70_4).length : Int) then (if 0 ≤ (rd (rd_L2 l1 x70_4) 0) then (if 0 ≤ (Go.bits .or .i64 x65_3 (shl .i64 1 (rd (rd_L2 l1 x70_4) 0))) then (if (Go.bits .or .i64 x65_3 (shl .i64 1 (rd (rd_L2 l1 x70_4) 0))) < (x8_4.length : Int) then (if (Go.bits .or .i64 x65_3 (shl .i64 1 (rd (rd_L2 l1 x70_4) 0))) < 128 then (impl_SpaceOfClauses.l2 k4 a0 l1 (x8_4.set ((Go.bits .or .i64 x65_3 (shl .i64 1 (rd (rd_L2 l1 x70_4) 0))) : Int).toNat true) x65_3 x65_3 l1 (l1.length : Int) (wrap64 (x70_4 + 1))) else (none)) else (none)) else (none)) else (none)) else (none)) else (impl_SpaceOfClauses.l2 k4 a0 l1 x8_4 x65_3 x65_3 l1 (l1.length : Int) (wrap64 (x70_4 + 1)))) = some (r1, r2, r3) := H
                     have A47 := Aside0.mk A470
                     clear A470
                     by_cases c48 : t934 = true
                     ·subst c48
                      have H1 : (if 0 < ((rd_L2 l1 x70_4).length : Int) then (if 0 ≤ (rd (rd_L2 l1 x70_4) 0) then (if 0 ≤ (Go.bits .or .i64 x65_3 (shl .i64 1 (rd (rd_L2 l1 x70_4) 0))) then (if (Go.bits .or .i64 x65_3 (shl .i64 1 (rd (rd_L2 l1 x70_4) 0))) < (x8_4.length : Int) then (if (Go.bits .or .i64 x65_3 (shl .i64 1 (rd (rd_L2 l1 x70_4) 0))) < 128 then (impl_SpaceOfClauses.l2 k4 a0 l1 (x8_4.set ((Go.bits .or .i64 x65_3 (shl .i64 1 (rd (rd_L2 l1 x70_4) 0))) : Int).toNat true) x65_3 x65_3 l1 (l1.length : Int) (wrap64 (x70_4 + 1))) else (none)) else (none)) else (none)) else (none)) else (none)) = some (r1, r2, r3) := by rw [if_pos rfl] at H; exact H
                      clear H
                      have H := H1
                      clear H1
                      by_cases c49 : 0 < ((rd_L2 l1 x70_4).length : Int)
                      ·rw [if_pos c49] at H
                       have c49b0 : decide (0 < ((rd_L2 l1 x70_4).length : Int)) = true := decide_eq_true c49
                       have c49b1 : decide (0 < (rd_L2 l1 x70_4).length) = true := decide_eq_true (by omega)
                       clear c49
                       by_cases c50 : 0 ≤ (rd (rd_L2 l1 x70_4) 0)
                       ·rw [if_pos c50] at H
                        have c50b0 := eq_true c50
                        have c50b1 : decide (0 ≤ (rd (rd_L2 l1 x70_4) 0)) = true := decide_eq_true c50
                        clear c50
                        obtain ⟨ji51, hji51⟩ : ∃ j_ : Int, (shl .i64 1 (rd (rd_L2 l1 x70_4) 0)) = j_ := ⟨_, rfl⟩
                        replace H : (if 0 ≤ (Go.bits .or .i64 x65_3 (ji51)) then (if (Go.bits .or .i64 x65_3 (ji51)) < (x8_4.length : Int) then (if (Go.bits .or .i64 x65_3 (ji51)) < 128 then (impl_SpaceOfClauses.l2 k4 a0 l1 (x8_4.set ((Go.bits .or .i64 x65_3 (ji51)) : Int).toNat true) x65_3 x65_3 l1 (l1.length : Int) (wrap64 (x70_4 + 1))) else (none)) else (none)) else (none)) = some (r1, r2, r3) := by (rw [hji51] at H; exact H)
                        skip
                        have hji51_ : (IntKind.i64.wrap (1 * 2 ^ min (rd (rd_L2 l1 x70_4) 0).toNat 64)) = ji51 := hji51
                        have hji51z : (rd (rd_L2 l1 x70_4) 0) ≤ 64 → (IntKind.i64.wrap (1 * 2 ^ (rd (rd_L2 l1 x70_4) 0).toNat)) = ji51 := shl_small hji51
                        have hji51u : (IntKind.i64.wrap (2 ^ min (rd (rd_L2 l1 x70_4) 0).toNat 64)) = ji51 := by have h_ := hji51_; rw [Int.one_mul] at h_; exact h_
                        have hji51v : (rd (rd_L2 l1 x70_4) 0) ≤ 64 → (IntKind.i64.wrap (2 ^ (rd (rd_L2 l1 x70_4) 0).toNat)) = ji51 := fun hle_ => by have h_ := hji51z hle_; rw [Int.one_mul] at h_; exact h_
                        have hji51y : (wrap64 (1 * 2 ^ min (rd (rd_L2 l1 x70_4) 0).toNat 64)) = ji51 := (i64_w _).symm.trans hji51_
                        have hji51x : (rd (rd_L2 l1 x70_4) 0) ≤ 64 → (wrap64 (1 * 2 ^ (rd (rd_L2 l1 x70_4) 0).toNat)) = ji51 := fun h_ => (i64_w _).symm.trans (hji51z h_)
                        by_cases c52 : 0 ≤ (Go.bits .or .i64 x65_3 (ji51))
                        ·rw [if_pos c52] at H
                         have c52b0 : decide (0 ≤ (Go.bits .or .i64 x65_3 (ji51))) = true := decide_eq_true c52
                         clear c52
                         by_cases c53 : (Go.bits .or .i64 x65_3 (ji51)) < (x8_4.length : Int)
                         ·rw [if_pos c53] at H
                          have c53b0 : decide ((Go.bits .or .i64 x65_3 (ji51)) < (x8_4.length : Int)) = true := decide_eq_true c53
                          clear c53
                          by_cases c54 : (Go.bits .or .i64 x65_3 (ji51)) < 128
                          ·rw [if_pos c54] at H
                           have c54b0 : decide ((Go.bits .or .i64 x65_3 (ji51)) < 128) = true := decide_eq_true c54
                           clear c54
                           obtain ⟨y936, hy936⟩ : ∃ y_ : List Bool, y_ = (x8_4.set ((Go.bits .or .i64 x65_3 (ji51)) : Int).toNat true) := ⟨_, rfl⟩
                           replace H : (impl_SpaceOfClauses.l2 k4 a0 l1 y936 x65_3 x65_3 l1 (l1.length : Int) (wrap64 (x70_4 + 1))) = some (r1, r2, r3) := by (rw [hy936]; with_reducible exact H)
                           have Ny936 := Aside0.mk hy936
                           clear hy936
                           have H' := Aside0.mk H
                           clear H
                           have p931 : 0 ≤ (x70_4 : Int) := of_decide_eq_true (by (with_reducible assumption))
                           have q931 : x70_4 < (l1.length : Int) := of_decide_eq_true (by (with_reducible assumption))
                           obtain ⟨ad931, A931_0, c931_0, e931, hx931_0, hl931_0, hi931_0⟩ := at_L2 HR1.out x70_4 p931 q931
                           cases e931
                           replace hx931_0 := (HB.out.cell (World.block_lt_of_cell? w _ hx931_0)).trans hx931_0
                           have HR931_0 := Aside0.mk hi931_0
                           have HC931_0 := Aside0.mk hl931_0
                           clear hi931_0 hl931_0
                           replace p931 := eq_true p931
                           replace q931 := eq_true q931
                           have p932 : 0 ≤ (x65_3 : Int) := of_decide_eq_true (by (with_reducible assumption))
                           have q932 : x65_3 < (x8_4.length : Int) := of_decide_eq_true (by (with_reducible assumption))
                           have qa932 : (x65_3 < 128) = True := eq_true (of_decide_eq_true (by (with_reducible assumption)))
                           obtain ⟨ad932, e932, hx932_0⟩ := Kd.at_bool (Kd.R_reads' HO_8.out).2.2 x65_3 p932 q932
                           (try rw [← Nbq44.out] at hx932_0)
                           obtain rfl : (⟨go32, 0, none⟩ : Addr) = ad932 := (by injection e932)
                           (simp only [add_plain] at hx932_0)
                           replace p932 := eq_true p932
                           replace q932 := eq_true q932
                           have p933 : 0 ≤ (1 : Int) := (by omega)
                           have q933 : 1 < ((rd_L2 l1 x70_4).length : Int) := of_decide_eq_true (by (with_reducible assumption))
                           obtain ⟨ad933, e933, hx933_0⟩ := Kd.at_int HR931_0.out 1 p933 q933
                           cases e933
                           (try simp only [show (1 : Int).toNat = 1 from rfl, Nat.reduceMul, Nat.reduceEqDiff, Go.Addr.add, ↓reduceIte] at hx933_0)
                           have qi933 : (1 < (rd_L2 l1 x70_4).length) = True := eq_true (by omega)
                           skip
                           replace hx933_0 := (HB.out.cell (World.block_lt_of_cell? w _ hx933_0)).trans hx933_0
                           replace p933 := eq_true p933
                           replace q933 := eq_true q933
                           try go_wp2_with ((go_at_call 93; (with_reducible refine (impl_part.calls (rd (rd_L2 l1 x70_4) 1) x65_3 true _ A47.out).mono ?_); rintro e w' ⟨rfl, ⟨nd, rfl⟩⟩; (try (rw [drewN_self wr]; generalize hq_ : World.drewN wr _ = wr; have n0_ : Aside0 (Kd.R Kd.bool 91 wr w.heap.size (fun _ => True) (.slice (some ⟨go32, 0, none⟩) x8_4.length co32) x8_4) := ⟨by rw [← hq_]; exact (by (with_reducible repeat (apply Kd.R_drewN)); exact HO_8.out)⟩; have n1_ : Aside0 (wr.heap[gb913]? = some (.cells #[.int .i64 x914000_2, .slice none 0 0] 37 (0, 0))) := ⟨by rw [← hq_]; exact (by (with_reducible repeat (refine blk_drewN ?_ _)); exact BK913.out)⟩; have n2_ : Aside0 (Below w.heap.size w wr) := ⟨by rw [← hq_]; exact (by repeat ((with_reducible first | exact HB.out | apply pw_below_drewN)))⟩; clear HO_8 BK913 HB hq_; have HO_8 := n0_; have BK913 := n1_; have HB := n2_; clear n0_ n1_ n2_))))
                           have n0_ := Aside0.mk (Kd.R_drew HO_8.out)
                           have n1_ := Aside0.mk (blk_drew BK913.out)
                           have n2_ := Aside0.mk (below_drew1 HB.out)
                           clear HO_8
                           clear BK913
                           clear HB
                           have HO_8 := n0_
                           have BK913 := n1_
                           have HB := n2_
                           clear n0_ n1_ n2_
                           have p935 : 0 ≤ (0 : Int) := (by omega)
                           have q935 : 0 < ((rd_L2 l1 x70_4).length : Int) := of_decide_eq_true (by (with_reducible assumption))
                           obtain ⟨ad935, e935, hx935_0⟩ := Kd.at_int HR931_0.out 0 p935 q935
                           have hw935_0 := hx935_0
                           (try rw [show ((0 : Int)).toNat = 0 from rfl] at hw935_0)
                           skip
                           (try rw [Addr.add_zero'] at hw935_0)
                           obtain rfl : ad933 = ad935 := (by injection e935)
                           have qi935 : (0 < (rd_L2 l1 x70_4).length) = True := eq_true (by omega)
                           (try rw [show ((0 : Int)).toNat = 0 from rfl] at hx935_0)
                           (try rw [Addr.add_zero'] at hx935_0)
                           replace hx935_0 := (HB.out.cell (World.block_lt_of_cell? w _ hx935_0)).trans hx935_0
                           replace p935 := eq_true p935
                           replace q935 := eq_true q935
                           have p55 : 0 ≤ ((Go.bits .or .i64 x65_3 (ji51)) : Int) := of_decide_eq_true (by (with_reducible assumption))
                           have q55 : ((Go.bits .or .i64 x65_3 (ji51)) : Int) < ((x8_4.length : Int) : Int) := of_decide_eq_true (by (with_reducible assumption))
                           have qa55 : ((Go.bits .or .i64 x65_3 (ji51)) < 128) = True := eq_true (of_decide_eq_true (by (with_reducible assumption)))
                           obtain ⟨hx55_0, hf55_0⟩ := Kd.R_celln false HO_8.out ((Go.bits .or .i64 x65_3 (ji51)) : Int) p55 q55
                           replace p55 := eq_true p55
                           replace q55 := eq_true q55
                           have HP57 := Kd.R_putn HO_8.out ((Go.bits .or .i64 x65_3 (ji51)) : Int) true
                           rw [← Ny936.out] at HP57
                           have HQ57 := Aside0.mk HP57
                           clear HP57
                           refine start_ (n := 10) (S := fun w' => w'.cell? ad933 = some (.int .i64 (rd (rd_L2 l1 x70_4) 0))) (ds := [9]) #[false, false, false, false, false, false, false, false, false, false] (by kernel_rfl) rfl rfl (((HB.out.cell (World.block_lt_of_cell? w _ hw935_0)).trans hw935_0)) (fun hHeld => ?_); refine with_tabW impl_SpaceOfClauses.tab18 impl_SpaceOfClauses.bits18 (fun HT_ HW_ => ?_)
                           generalize wr.drew = w56 at HO_8 BK913 HB HQ57 hf55_0 hx55_0 hx935_0 hHeld ⊢
                           refine pure_ (i := 0) (N := some 86) (v := ?_) (a' := ?_) #[true, false, false, false, false, false, false, false, false, false] rfl rfl (any_of HT_.out (by kernel_rfl)) (fun _ _ _ h => h) (Or.inl ⟨by rfl, ?_⟩) ?_ ?_
                           rotate_left
                           ·intro w'
                            go_simp
                            with_reducible rfl
                           rotate_left
                           ·simp only [Act.put, List.setIfInBounds_toArray, List.set_cons_zero, List.set_cons_succ, i64_w, i32_w]
                            rfl
                           refine pure_ (i := 1) (N := some 87) (v := ?_) (a' := ?_) #[true, true, false, false, false, false, false, false, false, false] rfl rfl (any_of HT_.out (by kernel_rfl)) (fun _ _ _ h => h) (Or.inl ⟨by rfl, ?_⟩) ?_ ?_
                           rotate_left
                           ·intro w'
                            go_simp
                            with_reducible rfl
                           rotate_left
                           ·simp only [Act.put, List.setIfInBounds_toArray, List.set_cons_zero, List.set_cons_succ, i64_w, i32_w]
                            rfl
                           refine pure_ (i := 2) (N := some 88) (v := ?_) (a' := ?_) #[true, true, true, false, false, false, false, false, false, false] rfl rfl (any_of HT_.out (by kernel_rfl)) (fun _ _ _ h => h) (Or.inl ⟨by rfl, ?_⟩) ?_ ?_
                           rotate_left
                           ·intro w'
                            go_simp
                            with_reducible rfl
                           rotate_left
                           ·simp only [Act.put, List.setIfInBounds_toArray, List.set_cons_zero, List.set_cons_succ, i64_w, i32_w]
                            rfl
                           refine pure_ (i := 3) (N := some 89) (v := ?_) (a' := ?_) #[true, true, true, true, false, false, false, false, false, false] rfl rfl (any_of HT_.out (by kernel_rfl)) (fun _ _ _ h => h) (Or.inl ⟨by rfl, ?_⟩) ?_ ?_
                           rotate_left
                           ·intro w'
                            go_simp
                            with_reducible rfl
                           rotate_left
                           ·simp only [Act.put, List.setIfInBounds_toArray, List.set_cons_zero, List.set_cons_succ, i64_w, i32_w]
                            rfl
                           refine pure_ (i := 7) (N := some 93) (v := ?_) (a' := ?_) #[true, true, true, true, false, false, false, true, false, false] rfl rfl (any_of HT_.out (by kernel_rfl)) (fun _ _ _ h => h) (Or.inl ⟨by rfl, ?_⟩) ?_ ?_
                           rotate_left
                           ·intro w'
                            go_simp
                            with_reducible rfl
                           rotate_left
                           ·simp only [Act.put, List.setIfInBounds_toArray, List.set_cons_zero, List.set_cons_succ, i64_w, i32_w]
                            rfl
                           refine take_ (i := 4) (N := some 90) (v := ?_) (a' := ?_) #[true, true, true, true, true, false, false, true, false, false] rfl rfl (take_ofW HT_.out HW_.out (by kernel_rfl)) (fun _ _ _ h => h) (Or.inl ⟨by rfl, ?_⟩) hHeld ?_ ?_
                           rotate_left
                           ·intro w' s0
                            go_simp
                            with_reducible rfl
                           rotate_left
                           ·simp only [Act.put, List.setIfInBounds_toArray, List.set_cons_zero, List.set_cons_succ, i64_w, i32_w]
                            rfl
                           refine pure_ (i := 5) (N := some 91) (v := ?_) (a' := ?_) #[true, true, true, true, true, true, false, true, false, false] rfl rfl (any_of HT_.out (by kernel_rfl)) (fun _ _ _ h => h) (Or.inl ⟨by rfl, ?_⟩) ?_ ?_
                           rotate_left
                           ·intro w'
                            go_simp
                            with_reducible rfl
                           rotate_left
                           ·simp only [Act.put, List.setIfInBounds_toArray, List.set_cons_zero, List.set_cons_succ, i64_w, i32_w]
                            rfl
                           refine pure_ (i := 6) (N := some 92) (v := ?_) (a' := ?_) #[true, true, true, true, true, true, true, true, false, false] rfl rfl (any_of HT_.out (by kernel_rfl)) (fun _ _ _ h => h) (Or.inl ⟨by rfl, ?_⟩) ?_ ?_
                           rotate_left
                           ·intro w'
                            go_simp
                            with_reducible rfl
                           rotate_left
                           ·simp only [Act.put, List.setIfInBounds_toArray, List.set_cons_zero, List.set_cons_succ, i64_w, i32_w]
                            rfl
                           refine pure_ (i := 8) (N := some 94) (v := ?_) (a' := ?_) #[true, true, true, true, true, true, true, true, true, false] rfl rfl (any_of HT_.out (by kernel_rfl)) (fun _ _ _ h => h) (Or.inl ⟨by rfl, ?_⟩) ?_ ?_
                           rotate_left
                           ·intro w'
                            go_simp
                            with_reducible rfl
                           rotate_left
                           ·simp only [Act.put, List.setIfInBounds_toArray, List.set_cons_zero, List.set_cons_succ, i64_w, i32_w]
                            rfl
                           refine last_ (i := 9) (N := none) #[true, true, true, true, true, true, true, true, true, true] rfl rfl (one_of HT_.out (by kernel_rfl)) (by decide) (fun K hK => ?_)
                           refine skip_ (w1 := ?_) (by rfl) rfl ?_ ?_
                           rotate_left
                           ·go_simp
                            rfl
                           refine hK.out _ _ ?_
                           clear hK K
                           refine done_ (done_of HT_.out (by kernel_rfl)) ?_
                           try go_wp2
                           skip
                           go_roundg k4
                           case measure => have := HJ2.out; have := HK2.out; have := HK3.out; have := HK4.out; omega
                           case rel => exact ⟨(y936), (wrap64 (x70_4 + 1)), (by rfl), H', ⟨by have := HJ2.out; have := HK2.out; have := HK3.out; have := HK4.out; omega⟩, ⟨by (try simp only [hl8_4]); (with_reducible repeat (apply Kd.R_drew)); exact HQ57.out⟩, ⟨by (with_reducible repeat (refine blk_drew ?_)); refine blk_far ?_ (by have h_ := Kd.R_ne HO_8.out BK913.out (by decide); intro e_; exact h_ (by rw [e_]; rfl)) _; (with_reducible repeat (refine blk_drew ?_)); exact BK913.out⟩, ⟨by repeat ((with_reducible first | exact HB.out | refine below_set ?_ GB32.out))⟩⟩
                          ·rw [if_neg c54] at H
                           exact absurd H (by simp)
                         ·rw [if_neg c53] at H
                          exact absurd H (by simp)
                        ·rw [if_neg c52] at H
                         exact absurd H (by simp)
                       ·rw [if_neg c50] at H
                        exact absurd H (by simp)
                      ·rw [if_neg c49] at H
                       exact absurd H (by simp)
                     ·replace c48 := Bool.eq_false_iff.mpr c48
                      subst c48
                      have H1 : (impl_SpaceOfClauses.l2 k4 a0 l1 x8_4 x65_3 x65_3 l1 (l1.length : Int) (wrap64 (x70_4 + 1))) = some (r1, r2, r3) := by rw [if_neg (show ¬ (false = true) by decide)] at H; exact H
                      clear H
                      have H := H1
                      clear H1
                      have H' := Aside0.mk H
                      clear H
                      have p931 : 0 ≤ (x70_4 : Int) := of_decide_eq_true (by (with_reducible assumption))
                      have q931 : x70_4 < (l1.length : Int) := of_decide_eq_true (by (with_reducible assumption))
                      obtain ⟨ad931, A931_0, c931_0, e931, hx931_0, hl931_0, hi931_0⟩ := at_L2 HR1.out x70_4 p931 q931
                      cases e931
                      replace hx931_0 := (HB.out.cell (World.block_lt_of_cell? w _ hx931_0)).trans hx931_0
                      have HR931_0 := Aside0.mk hi931_0
                      have HC931_0 := Aside0.mk hl931_0
                      clear hi931_0 hl931_0
                      replace p931 := eq_true p931
                      replace q931 := eq_true q931
                      have p932 : 0 ≤ (x65_3 : Int) := of_decide_eq_true (by (with_reducible assumption))
                      have q932 : x65_3 < (x8_4.length : Int) := of_decide_eq_true (by (with_reducible assumption))
                      have qa932 : (x65_3 < 128) = True := eq_true (of_decide_eq_true (by (with_reducible assumption)))
                      obtain ⟨ad932, e932, hx932_0⟩ := Kd.at_bool (Kd.R_reads' HO_8.out).2.2 x65_3 p932 q932
                      (try rw [← Nbq44.out] at hx932_0)
                      obtain rfl : (⟨go32, 0, none⟩ : Addr) = ad932 := (by injection e932)
                      (simp only [add_plain] at hx932_0)
                      replace p932 := eq_true p932
                      replace q932 := eq_true q932
                      have p933 : 0 ≤ (1 : Int) := (by omega)
                      have q933 : 1 < ((rd_L2 l1 x70_4).length : Int) := of_decide_eq_true (by (with_reducible assumption))
                      obtain ⟨ad933, e933, hx933_0⟩ := Kd.at_int HR931_0.out 1 p933 q933
                      cases e933
                      (try simp only [show (1 : Int).toNat = 1 from rfl, Nat.reduceMul, Nat.reduceEqDiff, Go.Addr.add, ↓reduceIte] at hx933_0)
                      have qi933 : (1 < (rd_L2 l1 x70_4).length) = True := eq_true (by omega)
                      skip
                      replace hx933_0 := (HB.out.cell (World.block_lt_of_cell? w _ hx933_0)).trans hx933_0
                      replace p933 := eq_true p933
                      replace q933 := eq_true q933
                      go_wp2_with ((go_at_call 93; (with_reducible refine (impl_part.calls (rd (rd_L2 l1 x70_4) 1) x65_3 false _ A47.out).mono ?_); rintro e w' ⟨rfl, ⟨nd, rfl⟩⟩))
                      skip
                      go_roundg k4
                      case measure => have := HJ2.out; have := HK2.out; have := HK3.out; have := HK4.out; omega
                      case rel => exact ⟨(x8_4), (wrap64 (x70_4 + 1)), (by rfl), H', ⟨by have := HJ2.out; have := HK2.out; have := HK3.out; have := HK4.out; omega⟩, ⟨by (try simp only [hl8_4]); (with_reducible repeat (apply Kd.R_drewN)); exact HO_8.out⟩, ⟨by (with_reducible repeat (refine blk_drewN ?_ _)); exact BK913.out⟩, ⟨by repeat ((with_reducible first | exact HB.out | apply pw_below_drewN))⟩⟩
                    ·rw [if_neg c46] at H
                     exact absurd H (by simp)
                   ·replace c45 := Bool.eq_false_iff.mpr c45
                    subst c45
                    have H1 : (impl_SpaceOfClauses.l2 k4 a0 l1 x8_4 x65_3 x65_3 l1 (l1.length : Int) (wrap64 (x70_4 + 1))) = some (r1, r2, r3) := by rw [if_neg (show ¬ (false = true) by decide)] at H; exact H
                    clear H
                    have H := H1
                    clear H1
                    have H' := Aside0.mk H
                    clear H
                    have p931 : 0 ≤ (x70_4 : Int) := of_decide_eq_true (by (with_reducible assumption))
                    have q931 : x70_4 < (l1.length : Int) := of_decide_eq_true (by (with_reducible assumption))
                    obtain ⟨ad931, A931_0, c931_0, e931, hx931_0, hl931_0, hi931_0⟩ := at_L2 HR1.out x70_4 p931 q931
                    cases e931
                    replace hx931_0 := (HB.out.cell (World.block_lt_of_cell? w _ hx931_0)).trans hx931_0
                    have HR931_0 := Aside0.mk hi931_0
                    have HC931_0 := Aside0.mk hl931_0
                    clear hi931_0 hl931_0
                    replace p931 := eq_true p931
                    replace q931 := eq_true q931
                    have p932 : 0 ≤ (x65_3 : Int) := of_decide_eq_true (by (with_reducible assumption))
                    have q932 : x65_3 < (x8_4.length : Int) := of_decide_eq_true (by (with_reducible assumption))
                    have qa932 : (x65_3 < 128) = True := eq_true (of_decide_eq_true (by (with_reducible assumption)))
                    obtain ⟨ad932, e932, hx932_0⟩ := Kd.at_bool (Kd.R_reads' HO_8.out).2.2 x65_3 p932 q932
                    (try rw [← Nbq44.out] at hx932_0)
                    obtain rfl : (⟨go32, 0, none⟩ : Addr) = ad932 := (by injection e932)
                    (simp only [add_plain] at hx932_0)
                    replace p932 := eq_true p932
                    replace q932 := eq_true q932
                    go_wp2
                    skip
                    go_roundg k4
                    case measure => have := HJ2.out; have := HK2.out; have := HK3.out; have := HK4.out; omega
                    case rel => exact ⟨(x8_4), (wrap64 (x70_4 + 1)), (by rfl), H', ⟨by have := HJ2.out; have := HK2.out; have := HK3.out; have := HK4.out; omega⟩, ⟨by (try simp only [hl8_4]); (with_reducible repeat (apply Kd.R_drew)); exact HO_8.out⟩, ⟨by (with_reducible repeat (refine blk_drew ?_)); exact BK913.out⟩, ⟨by repeat ((with_reducible exact HB.out))⟩⟩
                  ·rw [if_neg c43] at H
                   exact absurd H (by simp)
                 ·rw [if_neg c42] at H
                  exact absurd H (by simp)
                ·rw [if_neg c41] at H
                 exact absurd H (by simp)
               ·rw [if_neg c40] at H
                exact absurd H (by simp)
              ·rw [if_neg c39] at H
               exact absurd H (by simp)
             ·rw [if_neg c38] at H
              have c38b0 : decide (x70_4 < (l1.length : Int)) = false := decide_eq_false c38
              clear c38
              have H' := Aside0.mk H
              clear H
              go_wp2
              skip
              go_roundg k4
              case measure => have := HJ2.out; have := HK2.out; have := HK3.out; have := HK4.out; omega
              case rel => exact ⟨(x8_4), (wrap64 (x65_3 + 1)), (by rfl), H', ⟨by have := HJ2.out; have := HK2.out; have := HK3.out; have := HK4.out; omega⟩, ⟨by (try simp only [hl8_3]); (try simp only [hl8_4]); (with_reducible repeat (apply Kd.R_drew)); exact HO_8.out⟩, ⟨by (with_reducible repeat (refine blk_drew ?_)); exact BK913.out⟩, ⟨by repeat ((with_reducible exact HB.out))⟩⟩
          ·rw [if_neg c37] at H
           have c37b0 : decide (x65_3 < 128) = false := decide_eq_false c37
           clear c37
           by_cases c58 : 0 ≤ a0
           ·rw [if_pos c58] at H
            have c58b0 := eq_true c58
            have c58b1 : decide (0 ≤ a0) = true := decide_eq_true c58
            clear c58
            obtain ⟨ji59, hji59⟩ : ∃ j_ : Int, (shl .i64 1 a0) = j_ := ⟨_, rfl⟩
            replace H : (if 0 ≤ (wrap64 ((ji59) - 1)) then (if (wrap64 ((ji59) - 1)) < (x8_3.length : Int) then (if (wrap64 ((ji59) - 1)) < 128 then (if (rdOf false x8_3 (wrap64 ((ji59) - 1)) = true) then ((impl_family_space.f k3 x8_3 a0).bind fun bt927 => (some (bt927.1, bt927.2, true))) else (some (0, ([] : List Int), false))) else (none)) else (none)) else (none)) = some (r1, r2, r3) := by (rw [hji59] at H; exact H)
            have hji59_ : (IntKind.i64.wrap (1 * 2 ^ min a0.toNat 64)) = ji59 := hji59
            have hji59z : a0 ≤ 64 → (IntKind.i64.wrap (1 * 2 ^ a0.toNat)) = ji59 := shl_small hji59
            have hji59u : (IntKind.i64.wrap (2 ^ min a0.toNat 64)) = ji59 := by have h_ := hji59_; rw [Int.one_mul] at h_; exact h_
            have hji59v : a0 ≤ 64 → (IntKind.i64.wrap (2 ^ a0.toNat)) = ji59 := fun hle_ => by have h_ := hji59z hle_; rw [Int.one_mul] at h_; exact h_
            have hji59y : (wrap64 (1 * 2 ^ min a0.toNat 64)) = ji59 := (i64_w _).symm.trans hji59_
            have hji59x : a0 ≤ 64 → (wrap64 (1 * 2 ^ a0.toNat)) = ji59 := fun h_ => (i64_w _).symm.trans (hji59z h_)
            obtain ⟨ji60, hji60⟩ : ∃ j_ : Int, (wrap64 ((ji59) - 1)) = j_ := ⟨_, rfl⟩
            replace H : (if 0 ≤ (ji60) then (if (ji60) < (x8_3.length : Int) then (if (ji60) < 128 then (if (rdOf false x8_3 (ji60) = true) then ((impl_family_space.f k3 x8_3 a0).bind fun bt927 => (some (bt927.1, bt927.2, true))) else (some (0, ([] : List Int), false))) else (none)) else (none)) else (none)) = some (r1, r2, r3) := by (rw [hji60] at H; exact H)
            have hji60w : (IntKind.i64.wrap ((ji59) - 1)) = ji60 := (i64_w _).trans hji60
            by_cases c61 : 0 ≤ (ji60)
            ·rw [if_pos c61] at H
             have c61b0 : decide (0 ≤ (ji60)) = true := decide_eq_true c61
             clear c61
             by_cases c62 : (ji60) < (x8_3.length : Int)
             ·rw [if_pos c62] at H
              have c62b0 : decide ((ji60) < (x8_3.length : Int)) = true := decide_eq_true c62
              clear c62
              by_cases c63 : (ji60) < 128
              ·rw [if_pos c63] at H
               have c63b0 : decide ((ji60) < 128) = true := decide_eq_true c63
               clear c63
               obtain ⟨bq64, hbq64⟩ : ∃ b_ : Bool, b_ = (rdOf false x8_3 (ji60)) := ⟨_, rfl⟩
               replace H : (if (bq64 = true) then ((impl_family_space.f k3 x8_3 a0).bind fun bt927 => (some (bt927.1, bt927.2, true))) else (some (0, ([] : List Int), false))) = some (r1, r2, r3) := by rw [← hbq64] at H; exact H
               have Nbq64 := Aside0.mk hbq64
               clear hbq64
               by_cases c65 : (bq64 = true)
               ·subst c65
                have H1 : ((impl_family_space.f k3 x8_3 a0).bind fun bt927 => (some (bt927.1, bt927.2, true))) = some (r1, r2, r3) := by rw [if_pos rfl] at H; exact H
                clear H
                have H := H1
                clear H1
                replace H := Option.bind_eq_some_iff.mp H
                obtain ⟨⟨t927, t928⟩, A660, H⟩ := H
                replace H : (some (t927, t928, true)) = some (r1, r2, r3) := H
                have A66 := Aside0.mk A660
                clear A660
                simp only [Option.some.injEq, Prod.mk.injEq] at H
                obtain ⟨rfl, rfl, rfl⟩ := H
                try go_wp2
                have n0_ := Aside0.mk (Kd.R_drew HO_8.out)
                have n1_ := Aside0.mk (blk_drew BK913.out)
                have n2_ := Aside0.mk (below_drew1 HB.out)
                clear HO_8
                clear BK913
                clear HB
                have HO_8 := n0_
                have BK913 := n1_
                have HB := n2_
                clear n0_ n1_ n2_
                have p926 : 0 ≤ ((ji60) : Int) := of_decide_eq_true (by (with_reducible assumption))
                have q926 : (ji60) < (x8_3.length : Int) := of_decide_eq_true (by (with_reducible assumption))
                have qa926 : ((ji60) < 128) = True := eq_true (of_decide_eq_true (by (with_reducible assumption)))
                obtain ⟨ad926, e926, hx926_0⟩ := Kd.at_bool (Kd.R_reads' HO_8.out).2.2 (ji60) p926 q926
                (try rw [← Nbq64.out] at hx926_0)
                obtain rfl : (⟨go32, 0, none⟩ : Addr) = ad926 := (by injection e926)
                (simp only [add_plain] at hx926_0)
                replace p926 := eq_true p926
                replace q926 := eq_true q926
                refine start_ (n := 8) (S := fun w' => w'.cell? ⟨go32, ((ji60)).toNat, none⟩ = some (.bool true)) (ds := []) #[false, false, false, false, false, false, false, false] (by kernel_rfl) rfl rfl (hx926_0) (fun hHeld => ?_); refine with_tabW impl_SpaceOfClauses.tab21 impl_SpaceOfClauses.bits21 (fun HT_ HW_ => ?_)
                generalize wr.drew = w67 at HO_8 BK913 HB hx926_0 hHeld ⊢
                refine pure_ (i := 0) (N := some 97) (v := ?_) (a' := ?_) #[true, false, false, false, false, false, false, false] rfl rfl (any_of HT_.out (by kernel_rfl)) (fun _ _ _ h => h) (Or.inl ⟨by rfl, ?_⟩) ?_ ?_
                rotate_left
                ·intro w'
                 go_simp
                 with_reducible rfl
                rotate_left
                ·simp only [Act.put, List.setIfInBounds_toArray, List.set_cons_zero, List.set_cons_succ, i64_w, i32_w]
                 rfl
                refine pure_ (i := 1) (N := some 98) (v := ?_) (a' := ?_) #[true, true, false, false, false, false, false, false] rfl rfl (any_of HT_.out (by kernel_rfl)) (fun _ _ _ h => h) (Or.inl ⟨by rfl, ?_⟩) ?_ ?_
                rotate_left
                ·intro w'
                 go_simp
                 with_reducible rfl
                rotate_left
                ·simp only [Act.put, List.setIfInBounds_toArray, List.set_cons_zero, List.set_cons_succ, i64_w, i32_w]
                 rfl
                refine pure_ (i := 2) (N := some 99) (v := ?_) (a' := ?_) #[true, true, true, false, false, false, false, false] rfl rfl (any_of HT_.out (by kernel_rfl)) (fun _ _ _ h => h) (Or.inl ⟨by rfl, ?_⟩) ?_ ?_
                rotate_left
                ·intro w'
                 go_simp
                 with_reducible rfl
                rotate_left
                ·simp only [Act.put, List.setIfInBounds_toArray, List.set_cons_zero, List.set_cons_succ, i64_w, i32_w]
                 rfl
                refine pure_ (i := 3) (N := some 100) (v := ?_) (a' := ?_) #[true, true, true, true, false, false, false, false] rfl rfl (any_of HT_.out (by kernel_rfl)) (fun _ _ _ h => h) (Or.inl ⟨by rfl, ?_⟩) ?_ ?_
                rotate_left
                ·intro w'
                 go_simp
                 with_reducible rfl
                rotate_left
                ·simp only [Act.put, List.setIfInBounds_toArray, List.set_cons_zero, List.set_cons_succ, i64_w, i32_w]
                 rfl
                refine pure_ (i := 4) (N := some 101) (v := ?_) (a' := ?_) #[true, true, true, true, true, false, false, false] rfl rfl (any_of HT_.out (by kernel_rfl)) (fun _ _ _ h => h) (Or.inl ⟨by rfl, ?_⟩) ?_ ?_
                rotate_left
                ·intro w'
                 go_simp
                 with_reducible rfl
                rotate_left
                ·simp only [Act.put, List.setIfInBounds_toArray, List.set_cons_zero, List.set_cons_succ, i64_w, i32_w]
                 rfl
                refine pure_ (i := 5) (N := some 102) (v := ?_) (a' := ?_) #[true, true, true, true, true, true, false, false] rfl rfl (any_of HT_.out (by kernel_rfl)) (fun _ _ _ h => h) (Or.inl ⟨by rfl, ?_⟩) ?_ ?_
                rotate_left
                ·intro w'
                 go_simp
                 with_reducible rfl
                rotate_left
                ·simp only [Act.put, List.setIfInBounds_toArray, List.set_cons_zero, List.set_cons_succ, i64_w, i32_w]
                 rfl
                refine take_ (i := 6) (N := some 103) (v := ?_) (a' := ?_) #[true, true, true, true, true, true, true, false] rfl rfl (take_ofW HT_.out HW_.out (by kernel_rfl)) (fun _ _ _ h => h) (Or.inl ⟨by rfl, ?_⟩) hHeld ?_ ?_
                rotate_left
                ·intro w' s0
                 go_simp
                 with_reducible rfl
                rotate_left
                ·simp only [Act.put, List.setIfInBounds_toArray, List.set_cons_zero, List.set_cons_succ, i64_w, i32_w]
                 rfl
                refine pure_ (i := 7) (N := some 104) (v := ?_) (a' := ?_) #[true, true, true, true, true, true, true, true] rfl rfl (any_of HT_.out (by kernel_rfl)) (fun _ _ _ h => h) (Or.inl ⟨by rfl, ?_⟩) ?_ ?_
                rotate_left
                ·intro w'
                 go_simp
                 with_reducible rfl
                rotate_left
                ·simp only [Act.put, List.setIfInBounds_toArray, List.set_cons_zero, List.set_cons_succ, i64_w, i32_w]
                 rfl
                refine done_ (done_of HT_.out (by kernel_rfl)) ?_
                try go_wp2_with (((with_reducible refine gate_callee (f := 102) rfl ?_); refine goesL_ (some 108) rfl rfl Try.func102 (by kernel_rfl) rfl #[.pointer (some ⟨go32, 0, none⟩), .int .i64 a0] rfl (by (try simp only [List.map_toArray, List.map_cons, List.map_nil]); rfl) ?_; (refine (impl_family_space.calls k3 (some ⟨go32, 0, none⟩) co32 x8_3 a0 t927 t928 _ ?side1 ?side2 A66.out).mono ?_); (case side1 => repeat (exact (Kd.R_reads' HO_8.out).2.2)); (case side2 => exact (Kd.R_reads' HO_8.out).2.1); rintro e w68 ⟨v929, rfl, ho0, hb⟩; refine ⟨_, rfl, ?_⟩; have n0_ := Aside0.mk (Kd.R_below (by (with_reducible repeat (apply Kd.R_drew)); exact HO_8.out) hb); have n1_ := Aside0.mk (Kd.R_lower ho0 (below_size (by repeat ((with_reducible exact HB.out))))); have n2_ := Aside0.mk (blk_below (g := gb913) (o := .cells #[.int .i64 x914000_2, .slice none 0 0] 37 (0, 0)) (by (with_reducible repeat (refine blk_drew ?_)); exact BK913.out) hb); have n3_ := Aside0.mk (below_step (by repeat ((with_reducible exact HB.out))) hb); clear HO_8; clear BK913; clear HB; have HO_8 := n0_; have HO930 := n1_; have BK913 := n2_; have HB := n3_; clear n0_ n1_ n2_ n3_; (try clear hb); (try clear ho0); have hcz69_0 : w68.cell? ⟨gb913, 0, none⟩ = some (.int .i64 x914000_2) := (blk_cell BK913.out 0).trans rfl; have hcz69_1 : w68.cell? ⟨gb913, 1, none⟩ = some (.slice none 0 0) := (blk_cell BK913.out 1).trans rfl; have hfz69_0 := blk_frozen BK913.out 0; have hfz69_1 := blk_frozen BK913.out 1; obtain ⟨Ao70, co70, eo70⟩ := Kd.R_slice HO930.out; subst eo70))
                refine bodyPost_ret (results_ct rfl _ _ gb913 37 #[.int .i64 t927, .slice Ao70 t928.length co70] (0, 0) _ rfl (by (with_reducible repeat (refine blk_drew ?_)); refine blk_put (cs := #[.int .i64 t927, .slice none 0 0]) ?_ 1 _ rfl; (with_reducible repeat (refine blk_drew ?_)); refine blk_put (cs := #[.int .i64 x914000_2, .slice none 0 0]) ?_ 0 _ rfl; (with_reducible repeat (refine blk_drew ?_)); exact BK913.out) Try.underlying37 rfl (by kernel_rfl)) rfl ?_
                exact ⟨_, by rfl, by (with_reducible repeat (apply Kd.R_drew)); exact Kd.R_mono (Kd.R_far (p := ⟨gb913, 1, none⟩) (Kd.R_far (p := ⟨gb913, 0, none⟩) (Kd.R_types HO930.out BK913.out (by decide)) (fun _ hk => hk.2) (.int .i64 t927)) (fun _ hk => hk.2) (.slice Ao70 t928.length co70)) (fun _ hk => trivial), by repeat ((with_reducible first | exact HB.out | refine below_set ?_ GE913.out))⟩
               ·replace c65 := Bool.eq_false_iff.mpr c65
                subst c65
                have H1 : (some (0, ([] : List Int), false)) = some (r1, r2, r3) := by rw [if_neg (show ¬ (false = true) by decide)] at H; exact H
                clear H
                have H := H1
                clear H1
                simp only [Option.some.injEq, Prod.mk.injEq] at H
                obtain ⟨rfl, rfl, rfl⟩ := H
                try go_wp2
                have n0_ := Aside0.mk (Kd.R_drew HO_8.out)
                have n1_ := Aside0.mk (blk_drew BK913.out)
                have n2_ := Aside0.mk (below_drew1 HB.out)
                clear HO_8
                clear BK913
                clear HB
                have HO_8 := n0_
                have BK913 := n1_
                have HB := n2_
                clear n0_ n1_ n2_
                have p926 : 0 ≤ ((ji60) : Int) := of_decide_eq_true (by (with_reducible assumption))
                have q926 : (ji60) < (x8_3.length : Int) := of_decide_eq_true (by (with_reducible assumption))
                have qa926 : ((ji60) < 128) = True := eq_true (of_decide_eq_true (by (with_reducible assumption)))
                obtain ⟨ad926, e926, hx926_0⟩ := Kd.at_bool (Kd.R_reads' HO_8.out).2.2 (ji60) p926 q926
                (try rw [← Nbq64.out] at hx926_0)
                obtain rfl : (⟨go32, 0, none⟩ : Addr) = ad926 := (by injection e926)
                (simp only [add_plain] at hx926_0)
                replace p926 := eq_true p926
                replace q926 := eq_true q926
                refine start_ (n := 8) (S := fun w' => w'.cell? ⟨go32, ((ji60)).toNat, none⟩ = some (.bool false)) (ds := []) #[false, false, false, false, false, false, false, false] (by kernel_rfl) rfl rfl (hx926_0) (fun hHeld => ?_); refine with_tabW impl_SpaceOfClauses.tab21 impl_SpaceOfClauses.bits21 (fun HT_ HW_ => ?_)
                generalize wr.drew = w71 at HO_8 BK913 HB hx926_0 hHeld ⊢
                refine pure_ (i := 0) (N := some 97) (v := ?_) (a' := ?_) #[true, false, false, false, false, false, false, false] rfl rfl (any_of HT_.out (by kernel_rfl)) (fun _ _ _ h => h) (Or.inl ⟨by rfl, ?_⟩) ?_ ?_
                rotate_left
                ·intro w'
                 go_simp
                 with_reducible rfl
                rotate_left
                ·simp only [Act.put, List.setIfInBounds_toArray, List.set_cons_zero, List.set_cons_succ, i64_w, i32_w]
                 rfl
                refine pure_ (i := 1) (N := some 98) (v := ?_) (a' := ?_) #[true, true, false, false, false, false, false, false] rfl rfl (any_of HT_.out (by kernel_rfl)) (fun _ _ _ h => h) (Or.inl ⟨by rfl, ?_⟩) ?_ ?_
                rotate_left
                ·intro w'
                 go_simp
                 with_reducible rfl
                rotate_left
                ·simp only [Act.put, List.setIfInBounds_toArray, List.set_cons_zero, List.set_cons_succ, i64_w, i32_w]
                 rfl
                refine pure_ (i := 2) (N := some 99) (v := ?_) (a' := ?_) #[true, true, true, false, false, false, false, false] rfl rfl (any_of HT_.out (by kernel_rfl)) (fun _ _ _ h => h) (Or.inl ⟨by rfl, ?_⟩) ?_ ?_
                rotate_left
                ·intro w'
                 go_simp
                 with_reducible rfl
                rotate_left
                ·simp only [Act.put, List.setIfInBounds_toArray, List.set_cons_zero, List.set_cons_succ, i64_w, i32_w]
                 rfl
                refine pure_ (i := 3) (N := some 100) (v := ?_) (a' := ?_) #[true, true, true, true, false, false, false, false] rfl rfl (any_of HT_.out (by kernel_rfl)) (fun _ _ _ h => h) (Or.inl ⟨by rfl, ?_⟩) ?_ ?_
                rotate_left
                ·intro w'
                 go_simp
                 with_reducible rfl
                rotate_left
                ·simp only [Act.put, List.setIfInBounds_toArray, List.set_cons_zero, List.set_cons_succ, i64_w, i32_w]
                 rfl
                refine pure_ (i := 4) (N := some 101) (v := ?_) (a' := ?_) #[true, true, true, true, true, false, false, false] rfl rfl (any_of HT_.out (by kernel_rfl)) (fun _ _ _ h => h) (Or.inl ⟨by rfl, ?_⟩) ?_ ?_
                rotate_left
                ·intro w'
                 go_simp
                 with_reducible rfl
                rotate_left
                ·simp only [Act.put, List.setIfInBounds_toArray, List.set_cons_zero, List.set_cons_succ, i64_w, i32_w]
                 rfl
                refine pure_ (i := 5) (N := some 102) (v := ?_) (a' := ?_) #[true, true, true, true, true, true, false, false] rfl rfl (any_of HT_.out (by kernel_rfl)) (fun _ _ _ h => h) (Or.inl ⟨by rfl, ?_⟩) ?_ ?_
                rotate_left
                ·intro w'
                 go_simp
                 with_reducible rfl
                rotate_left
                ·simp only [Act.put, List.setIfInBounds_toArray, List.set_cons_zero, List.set_cons_succ, i64_w, i32_w]
                 rfl
                refine take_ (i := 6) (N := some 103) (v := ?_) (a' := ?_) #[true, true, true, true, true, true, true, false] rfl rfl (take_ofW HT_.out HW_.out (by kernel_rfl)) (fun _ _ _ h => h) (Or.inl ⟨by rfl, ?_⟩) hHeld ?_ ?_
                rotate_left
                ·intro w' s0
                 go_simp
                 with_reducible rfl
                rotate_left
                ·simp only [Act.put, List.setIfInBounds_toArray, List.set_cons_zero, List.set_cons_succ, i64_w, i32_w]
                 rfl
                refine pure_ (i := 7) (N := some 104) (v := ?_) (a' := ?_) #[true, true, true, true, true, true, true, true] rfl rfl (any_of HT_.out (by kernel_rfl)) (fun _ _ _ h => h) (Or.inl ⟨by rfl, ?_⟩) ?_ ?_
                rotate_left
                ·intro w'
                 go_simp
                 with_reducible rfl
                rotate_left
                ·simp only [Act.put, List.setIfInBounds_toArray, List.set_cons_zero, List.set_cons_succ, i64_w, i32_w]
                 rfl
                refine done_ (done_of HT_.out (by kernel_rfl)) ?_
                have hcz72_0 : w71.cell? ⟨gb913, 0, none⟩ = some (.int .i64 x914000_2) := (blk_cell BK913.out 0).trans rfl
                have hcz72_1 : w71.cell? ⟨gb913, 1, none⟩ = some (.slice none 0 0) := (blk_cell BK913.out 1).trans rfl
                have hfz72_0 := blk_frozen BK913.out 0
                have hfz72_1 := blk_frozen BK913.out 1
                try go_wp2
                refine bodyPost_ret (results_ct rfl _ _ gb913 37 #[.int .i64 0, .slice none 0 0] (0, 0) _ rfl (by (with_reducible repeat (refine blk_drew ?_)); refine blk_put (cs := #[.int .i64 0, .slice none 0 0]) ?_ 1 _ rfl; (with_reducible repeat (refine blk_drew ?_)); refine blk_put (cs := #[.int .i64 x914000_2, .slice none 0 0]) ?_ 0 _ rfl; (with_reducible repeat (refine blk_drew ?_)); exact BK913.out) Try.underlying37 rfl (by kernel_rfl)) rfl ?_
                exact ⟨_, by rfl, by exact Kd.R_nil _ _ _ _ _, by repeat ((with_reducible first | exact HB.out | refine below_set ?_ GE913.out))⟩
              ·rw [if_neg c63] at H
               exact absurd H (by simp)
             ·rw [if_neg c62] at H
              exact absurd H (by simp)
            ·rw [if_neg c61] at H
             exact absurd H (by simp)
           ·rw [if_neg c58] at H
            exact absurd H (by simp)
       ·rw [if_neg c31] at H
        exact absurd H (by simp)

end Go.Proofs.Ythpbmecinoninaa.P
