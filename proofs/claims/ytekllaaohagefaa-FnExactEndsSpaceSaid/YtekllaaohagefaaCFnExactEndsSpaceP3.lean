/- Functions of the program as plain Lean functions, each with a proof that the Go code computes it; written by a program of this session. Conditions: as each theorem states. -/
import Derived.Test.YtekllaaohagefaaCFnExactEndsSpaceP2
namespace Go.Proofs.Ytekllaaohagefaa.P
open Go.RowKit Go.Proofs.YtekllaaohagefaaW.PrintWords Go.Proofs.YtekllaaohagefaaW.PrintLast Go.Proofs.YtekllaaohagefaaW.PrintMore
attribute [local go_sem] max2_int min2_int max_two min_two max_three min_three max_four min_four   -- for this text's walks alone
set_option linter.unusedVariables false
set_option linter.unusedSimpArgs false

/-! ### spec_EndsSpace: function 22 -/
mutual
def spec_EndsSpace.j0 : Nat → Int → List (List Int) → Bool → Option (Int × List Int × Bool)
 | 0, _, _, _ => none
 | k + 1, x0, x1, x28 => if x28 = true then (some (0, ([] : List Int), false)) else (if 0 ≤ x0 then (if (x0 : Int).toNat ≤ 35184372088832 then (spec_EndsSpace.l0 k x0 (List.replicate (x0 : Int).toNat 0) x1 (x1.length : Int) 0) else (none)) else (none))
def spec_EndsSpace.l0 : Nat → Int → List Int → List (List Int) → Int → Int → Option (Int × List Int × Bool)
 | 0, _, _, _, _, _ => none
 | k + 1, x0, x6, x32, x33, x34 => if x34 < x33 then (if 0 ≤ x34 then (if x34 < (x32.length : Int) then (if ((rd_L2 x32 x34).length : Int) = 2 then ((spec_l1All.f k (rd_L2 x32 x34) 0 (wrap64 (x0 - 1))).bind fun t333 => (if t333 = true then (if 0 < ((rd_L2 x32 x34).length : Int) then (if 1 < ((rd_L2 x32 x34).length : Int) then (if (rd (rd_L2 x32 x34) 0) = (rd (rd_L2 x32 x34) 1) then (some (0, ([] : List Int), false)) else (if 0 ≤ (rd (rd_L2 x32 x34) 1) then (if (rd (rd_L2 x32 x34) 1) < (x6.length : Int) then (if 0 ≤ (rd (rd_L2 x32 x34) 0) then (spec_EndsSpace.l0 k x0 (x6.set ((rd (rd_L2 x32 x34) 1) : Int).toNat (Go.bits .or .i64 (rd x6 (rd (rd_L2 x32 x34) 1)) (shl .i64 1 (rd (rd_L2 x32 x34) 0)))) x32 x33 (wrap64 (x34 + 1))) else (none)) else (none)) else (none))) else (none)) else (none)) else (some (0, ([] : List Int), false)))) else (some (0, ([] : List Int), false))) else (none)) else (none)) else (spec_EndsSpace.l1 k x0 x6 0)
def spec_EndsSpace.l1 : Nat → Int → List Int → Int → Option (Int × List Int × Bool)
 | 0, _, _, _ => none
 | k + 1, x0, x6, x9 => if x9 < x0 then (spec_EndsSpace.l2 k x0 x6 x9 (x6.length : Int) 0) else (spec_EndsSpace.l3 k x0 x6 x6 (x6.length : Int) 0)
def spec_EndsSpace.l2 : Nat → Int → List Int → Int → Int → Int → Option (Int × List Int × Bool)
 | 0, _, _, _, _, _ => none
 | k + 1, x0, x6, x9, x77, x78 => if x78 < x77 then (if 0 ≤ x78 then (if x78 < (x6.length : Int) then ((spec_spIn.f (rd x6 x78) x9).bind fun t341 => (if t341 = true then (if 0 ≤ x9 then (if x9 < (x6.length : Int) then (spec_EndsSpace.l2 k x0 (x6.set (x78 : Int).toNat (Go.bits .or .i64 (rd x6 x78) (rd x6 x9))) x9 x77 (wrap64 (x78 + 1))) else (none)) else (none)) else (spec_EndsSpace.l2 k x0 x6 x9 x77 (wrap64 (x78 + 1))))) else (none)) else (none)) else (spec_EndsSpace.l1 k x0 x6 (wrap64 (x9 + 1)))
def spec_EndsSpace.l3 : Nat → Int → List Int → List Int → Int → Int → Option (Int × List Int × Bool)
 | 0, _, _, _, _, _ => none
 | k + 1, x0, x6, x98, x99, x100 => if x100 < x99 then (if 0 ≤ x100 then (if x100 < (x98.length : Int) then ((spec_spIn.f (rd x98 x100) x100).bind fun t346 => (if t346 = true then (some (0, ([] : List Int), false)) else (spec_EndsSpace.l3 k x0 x6 x98 x99 (wrap64 (x100 + 1))))) else (none)) else (none)) else (if 0 ≤ x0 then (spec_EndsSpace.l4 k x6 (wrap64 ((shl .i64 1 x0) - 1)) 0 x0 ([] : List Int)) else (none))
def spec_EndsSpace.l4 : Nat → List Int → Int → Int → Int → List Int → Option (Int × List Int × Bool)
 | 0, _, _, _, _, _ => none
 | k + 1, x6, x14, x15, x348000, x348001 => if x15 ≤ x14 then (spec_EndsSpace.l5 k x6 x14 x15 (Go.bits .andNot .i64 x14 x15) true (x6.length : Int) 0 x348000 x348001) else (some (x348000, x348001, true))
def spec_EndsSpace.l5 : Nat → List Int → Int → Int → Int → Bool → Int → Int → Int → List Int → Option (Int × List Int × Bool)
 | 0, _, _, _, _, _, _, _, _, _ => none
 | k + 1, x6, x14, x15, x16, x17, x124, x125, x348000, x348001 => if x125 < x124 then (spec_EndsSpace.l6 k x6 x14 x15 x16 x17 x125 x124 x125 (x6.length : Int) 0 x348000 x348001) else (if x17 = true then (if x348001.length < 17592186044416 then (spec_EndsSpace.l4 k x6 x14 (wrap64 (x15 + 1)) x348000 (x348001 ++ [x15])) else (none)) else (spec_EndsSpace.l4 k x6 x14 (wrap64 (x15 + 1)) x348000 x348001))
def spec_EndsSpace.l6 : Nat → List Int → Int → Int → Int → Bool → Int → Int → Int → Int → Int → Int → List Int → Option (Int × List Int × Bool)
 | 0, _, _, _, _, _, _, _, _, _, _, _, _ => none
 | k + 1, x6, x14, x15, x16, x17, x18, x124, x125, x129, x130, x348000, x348001 => if x130 < x129 then (spec_EndsSpace.l7 k x6 x14 x15 x16 x17 x18 x130 x124 x125 x129 x130 (x6.length : Int) 0 x348000 x348001) else (spec_EndsSpace.l5 k x6 x14 x15 x16 x17 x124 (wrap64 (x125 + 1)) x348000 x348001)
def spec_EndsSpace.l7 : Nat → List Int → Int → Int → Int → Bool → Int → Int → Int → Int → Int → Int → Int → Int → Int → List Int → Option (Int × List Int × Bool)
 | 0, _, _, _, _, _, _, _, _, _, _, _, _, _, _, _ => none
 | k + 1, x6, x14, x15, x16, x17, x18, x19, x124, x125, x129, x130, x134, x135, x348000, x348001 => if x135 < x134 then ((spec_spIn.f x16 x18).bind fun t351 => (if t351 = true then ((spec_spIn.f x16 x19).bind fun t352 => (if t352 = true then (if 0 ≤ x135 then (if x135 < (x6.length : Int) then ((spec_spIn.f (rd x6 x135) x18).bind fun t354 => (if t354 = true then (if 0 ≤ x19 then (if x19 < (x6.length : Int) then ((spec_spIn.f (rd x6 x19) x135).bind fun t356 => (if t356 = true then ((spec_spIn.f x16 x135).bind fun t357 => (if t357 = true then (spec_EndsSpace.l7 k x6 x14 x15 x16 x17 x18 x19 x124 x125 x129 x130 x134 (wrap64 (x135 + 1)) x348000 x348001) else (spec_EndsSpace.l7 k x6 x14 x15 x16 false x18 x19 x124 x125 x129 x130 x134 (wrap64 (x135 + 1)) x348000 x348001))) else (spec_EndsSpace.l7 k x6 x14 x15 x16 x17 x18 x19 x124 x125 x129 x130 x134 (wrap64 (x135 + 1)) x348000 x348001))) else (none)) else (none)) else (spec_EndsSpace.l7 k x6 x14 x15 x16 x17 x18 x19 x124 x125 x129 x130 x134 (wrap64 (x135 + 1)) x348000 x348001))) else (none)) else (none)) else (spec_EndsSpace.l7 k x6 x14 x15 x16 x17 x18 x19 x124 x125 x129 x130 x134 (wrap64 (x135 + 1)) x348000 x348001))) else (spec_EndsSpace.l7 k x6 x14 x15 x16 x17 x18 x19 x124 x125 x129 x130 x134 (wrap64 (x135 + 1)) x348000 x348001))) else (spec_EndsSpace.l6 k x6 x14 x15 x16 x17 x18 x124 x125 x129 (wrap64 (x130 + 1)) x348000 x348001)
end
def spec_EndsSpace.f (k : Nat) (a0 : Int) (l1 : List (List Int)) : Option (Int × List Int × Bool) := (spec_spItems.f a0).bind fun t328 => (if t328 = true then (spec_EndsSpace.j0 k a0 l1 (decide ((l1.length : Int) > 40))) else (spec_EndsSpace.j0 k a0 l1 true))
theorem spec_EndsSpace.mono_l : ∀ k, (∀ y0 y1 y2, LeO (spec_EndsSpace.j0 k y0 y1 y2) (spec_EndsSpace.j0 (k + 1) y0 y1 y2)) ∧ (∀ y0 y1 y2 y3 y4, LeO (spec_EndsSpace.l0 k y0 y1 y2 y3 y4) (spec_EndsSpace.l0 (k + 1) y0 y1 y2 y3 y4)) ∧ (∀ y0 y1 y2, LeO (spec_EndsSpace.l1 k y0 y1 y2) (spec_EndsSpace.l1 (k + 1) y0 y1 y2)) ∧ (∀ y0 y1 y2 y3 y4, LeO (spec_EndsSpace.l2 k y0 y1 y2 y3 y4) (spec_EndsSpace.l2 (k + 1) y0 y1 y2 y3 y4)) ∧ (∀ y0 y1 y2 y3 y4, LeO (spec_EndsSpace.l3 k y0 y1 y2 y3 y4) (spec_EndsSpace.l3 (k + 1) y0 y1 y2 y3 y4)) ∧ (∀ y0 y1 y2 y3 y4, LeO (spec_EndsSpace.l4 k y0 y1 y2 y3 y4) (spec_EndsSpace.l4 (k + 1) y0 y1 y2 y3 y4)) ∧ (∀ y0 y1 y2 y3 y4 y5 y6 y7 y8, LeO (spec_EndsSpace.l5 k y0 y1 y2 y3 y4 y5 y6 y7 y8) (spec_EndsSpace.l5 (k + 1) y0 y1 y2 y3 y4 y5 y6 y7 y8)) ∧ (∀ y0 y1 y2 y3 y4 y5 y6 y7 y8 y9 y10 y11, LeO (spec_EndsSpace.l6 k y0 y1 y2 y3 y4 y5 y6 y7 y8 y9 y10 y11) (spec_EndsSpace.l6 (k + 1) y0 y1 y2 y3 y4 y5 y6 y7 y8 y9 y10 y11)) ∧ (∀ y0 y1 y2 y3 y4 y5 y6 y7 y8 y9 y10 y11 y12 y13 y14, LeO (spec_EndsSpace.l7 k y0 y1 y2 y3 y4 y5 y6 y7 y8 y9 y10 y11 y12 y13 y14) (spec_EndsSpace.l7 (k + 1) y0 y1 y2 y3 y4 y5 y6 y7 y8 y9 y10 y11 y12 y13 y14))
 | 0 => ⟨fun _ _ _ r h => by simp [spec_EndsSpace.j0] at h, fun _ _ _ _ _ r h => by simp [spec_EndsSpace.l0] at h, fun _ _ _ r h => by simp [spec_EndsSpace.l1] at h, fun _ _ _ _ _ r h => by simp [spec_EndsSpace.l2] at h, fun _ _ _ _ _ r h => by simp [spec_EndsSpace.l3] at h, fun _ _ _ _ _ r h => by simp [spec_EndsSpace.l4] at h, fun _ _ _ _ _ _ _ _ _ r h => by simp [spec_EndsSpace.l5] at h, fun _ _ _ _ _ _ _ _ _ _ _ _ r h => by simp [spec_EndsSpace.l6] at h, fun _ _ _ _ _ _ _ _ _ _ _ _ _ _ _ r h => by simp [spec_EndsSpace.l7] at h⟩
 | k + 1 => by
  obtain ⟨ih0, ih1, ih2, ih3, ih4, ih5, ih6, ih7, ih8⟩ := spec_EndsSpace.mono_l k
  refine ⟨?_, ?_, ?_, ?_, ?_, ?_, ?_, ?_, ?_⟩
  ·intro y0 y1 y2
   unfold spec_EndsSpace.j0
   repeat' first
   | (with_reducible exact ih1 _ _ _ _ _)
   | (with_reducible exact LeO.refl _)
   | (with_reducible refine LeO.ite ?_ ?_)
  ·intro y0 y1 y2 y3 y4
   unfold spec_EndsSpace.l0
   repeat' first
   | (with_reducible exact ih1 _ _ _ _ _)
   | (with_reducible exact ih2 _ _ _)
   | (with_reducible exact spec_l1All.mono _ _ _ _)
   | (with_reducible exact LeO.refl _)
   | (with_reducible refine LeO.ite ?_ ?_)
   | (with_reducible refine LeO.bind ?_ (fun _ => ?_))
  ·intro y0 y1 y2
   unfold spec_EndsSpace.l1
   repeat' first
   | (with_reducible exact ih3 _ _ _ _ _)
   | (with_reducible exact ih4 _ _ _ _ _)
   | (with_reducible refine LeO.ite ?_ ?_)
  ·intro y0 y1 y2 y3 y4
   unfold spec_EndsSpace.l2
   repeat' first
   | (with_reducible exact ih2 _ _ _)
   | (with_reducible exact ih3 _ _ _ _ _)
   | (with_reducible exact LeO.refl _)
   | (with_reducible refine LeO.ite ?_ ?_)
   | (with_reducible refine LeO.bind ?_ (fun _ => ?_))
  ·intro y0 y1 y2 y3 y4
   unfold spec_EndsSpace.l3
   repeat' first
   | (with_reducible exact ih4 _ _ _ _ _)
   | (with_reducible exact ih5 _ _ _ _ _)
   | (with_reducible exact LeO.refl _)
   | (with_reducible refine LeO.ite ?_ ?_)
   | (with_reducible refine LeO.bind ?_ (fun _ => ?_))
  ·intro y0 y1 y2 y3 y4
   unfold spec_EndsSpace.l4
   repeat' first
   | (with_reducible exact ih6 _ _ _ _ _ _ _ _ _)
   | (with_reducible exact LeO.refl _)
   | (with_reducible refine LeO.ite ?_ ?_)
  ·intro y0 y1 y2 y3 y4 y5 y6 y7 y8
   unfold spec_EndsSpace.l5
   repeat' first
   | (with_reducible exact ih5 _ _ _ _ _)
   | (with_reducible exact ih7 _ _ _ _ _ _ _ _ _ _ _ _)
   | (with_reducible exact LeO.refl _)
   | (with_reducible refine LeO.ite ?_ ?_)
  ·intro y0 y1 y2 y3 y4 y5 y6 y7 y8 y9 y10 y11
   unfold spec_EndsSpace.l6
   repeat' first
   | (with_reducible exact ih6 _ _ _ _ _ _ _ _ _)
   | (with_reducible exact ih8 _ _ _ _ _ _ _ _ _ _ _ _ _ _ _)
   | (with_reducible refine LeO.ite ?_ ?_)
  ·intro y0 y1 y2 y3 y4 y5 y6 y7 y8 y9 y10 y11 y12 y13 y14
   unfold spec_EndsSpace.l7
   repeat' first
   | (with_reducible exact ih7 _ _ _ _ _ _ _ _ _ _ _ _)
   | (with_reducible exact ih8 _ _ _ _ _ _ _ _ _ _ _ _ _ _ _)
   | (with_reducible exact LeO.refl _)
   | (with_reducible refine LeO.ite ?_ ?_)
   | (with_reducible refine LeO.bind ?_ (fun _ => ?_))
theorem spec_EndsSpace.mono : ∀ a0 a1 k, LeO (spec_EndsSpace.f k a0 a1) (spec_EndsSpace.f (k + 1) a0 a1) := by
 intro a0 a1 k
 obtain ⟨ih0, ih1, ih2, ih3, ih4, ih5, ih6, ih7, ih8⟩ := spec_EndsSpace.mono_l k
 unfold spec_EndsSpace.f
 repeat' first
   | (with_reducible exact ih0 _ _ _)
   | (with_reducible exact LeO.refl _)
   | (with_reducible refine LeO.ite ?_ ?_)
   | (with_reducible refine LeO.bind ?_ (fun _ => ?_))
def spec_EndsSpace.T7 : Bool × List (List Nat × List Nat) := (true, [([], []), ([0], [0]), ([1], [1]), ([2], [2]), ([3], [3]), ([3], [3]), ([5, 3], [3, 5]), ([4, 6, 3, 3], [3, 4, 6]), ([7, 3], [3, 7]), ([3, 8], [3, 8]), ([9, 7], [9]), ([10], [10]), ([11, 10], [10, 11]), ([12, 10], [10, 12]), ([10], [10]), ([14, 10], [10, 14]), ([15, 10], [10, 15]), ([13, 16, 10], [10, 13, 16]), ([10, 17], [10, 17])])
def spec_EndsSpace.B7 : List Nat := [0, 1, 3, 7, 15, 15, 47, 127, 255, 511, 1023, 2047, 4095, 8191, 2047, 18431, 51199, 131071, 262143]
theorem spec_EndsSpace.tab7 : rtab .any (opsOf Try.f22 7) = spec_EndsSpace.T7 := by kernel_rfl
theorem spec_EndsSpace.bits7 : waitsOk spec_EndsSpace.T7.2 spec_EndsSpace.B7 = true := by kernel_rfl
def spec_EndsSpace.T9 : Bool × List (List Nat × List Nat) := (true, [([], []), ([], []), ([1], [1]), ([2], [2]), ([0, 3], [0, 3]), ([4], [4]), ([], []), ([6], [6]), ([7], [7]), ([8], [8]), ([5, 9], [5, 9]), ([0, 3, 0, 1, 2, 3, 4, 5, 6, 7, 8, 9, 10], [0, 3]), ([11, 10, 0, 1, 2, 3, 4, 5, 6, 7, 8, 9, 10], [10, 11])])
def spec_EndsSpace.B9 : List Nat := [0, 0, 2, 6, 15, 31, 0, 64, 192, 448, 1023, 2047, 4095]
theorem spec_EndsSpace.tab9 : rtab .any (opsOf Try.f22 9) = spec_EndsSpace.T9 := by kernel_rfl
theorem spec_EndsSpace.bits9 : waitsOk spec_EndsSpace.T9.2 spec_EndsSpace.B9 = true := by kernel_rfl
def spec_EndsSpace.T18 : Bool × List (List Nat × List Nat) := (true, [([], []), ([], []), ([0, 1], [0, 1]), ([2], [2]), ([], []), ([], []), ([4, 5], [4, 5]), ([6], [6]), ([3, 7], [3, 7]), ([0, 1, 0, 1, 2, 3, 4, 5, 6, 7, 8], [0, 1]), ([9, 8, 0, 1, 2, 3, 4, 5, 6, 7, 8], [8, 9])])
def spec_EndsSpace.B18 : List Nat := [0, 0, 3, 7, 0, 0, 48, 112, 255, 511, 1023]
theorem spec_EndsSpace.tab18 : rtab .any (opsOf Try.f22 18) = spec_EndsSpace.T18 := by kernel_rfl
theorem spec_EndsSpace.bits18 : waitsOk spec_EndsSpace.T18.2 spec_EndsSpace.B18 = true := by kernel_rfl
set_option maxHeartbeats 8000000 in
set_option maxRecDepth 100000 in
theorem spec_EndsSpace.calls (k : Nat) (a0 : Int) (A1 : Option Addr) (c1 : Nat) (l1 : List (List Int)) (r1 : Int) (r2 : List Int) (r3 : Bool) (w : World) (hr1 : Kd.C (Kd.slice 3 (Kd.int .i64)) w A1 l1.length l1) (hc1 : l1.length ≤ c1) (h : spec_EndsSpace.f k a0 l1 = some (r1, r2, r3)) :
  Calls Try.prog 22 #[.int .i64 a0, .slice A1 l1.length c1] w fun e w' => ∃ v1_ : Value, e = .returned (.tuple #[.agg #[.int .i64 r1, v1_], .bool r3]) ∧ Kd.R (Kd.int .i64) 3 w' w.heap.size (fun _ => True) v1_ r2 ∧ Below w.heap.size w w' := by
 have hu28 := Try.underlying28
 have HR1 := Aside0.mk hr1
 have HC1 := Aside0.mk hc1
 clear hr1 hc1
 have HB := Aside0.mk (Below.refl w.heap.size w)
 have H : ((spec_spItems.f a0).bind fun t328 => (if t328 = true then (spec_EndsSpace.j0 k a0 l1 (decide ((l1.length : Int) > 40))) else (spec_EndsSpace.j0 k a0 l1 true))) = some (r1, r2, r3) := h
 clear h
 have HC3 := Aside0.mk H
 clear H
 go_enter Try.func22, Try.ntmps22
 go_upto_region 1 with (((with_reducible refine gate_dst (N := 4) rfl ?_); (try (refine gate_guard (by rfl) ?_; dsimp only)); refine box_event ?hg (N := 4) ?hd (cs := #[.int .i64 0, .slice none 0 0]) (t := 28) ?hr ?_; (case hd => rfl); (case hg => rfl); (case hr => (go_simp; done)); intro gb327 hg w4 hbox hb; have n0_ := Aside0.mk (below_step (by repeat ((with_reducible exact HB.out))) hb); have n1_ := Aside0.mk (hbox); have n2_ := Aside0.mk ((by rw [hg]; exact (below_size (by repeat ((with_reducible exact HB.out)))) : w.heap.size ≤ gb327)); have n3_ := Aside0.mk ((by rw [hg]; exact (below_size (by repeat ((with_reducible exact HB.out)))) : w.heap.size ≤ gb327)); clear HB; have HB := n0_; have BK327 := n1_; have GW327 := n2_; have GE327 := n3_; clear n0_ n1_ n2_ n3_; clear hb hbox hg))
 skip
 go_cut [28] (fun v28 wc => ∃ (kq : Nat) (x28_2 : Bool), v28 = .bool x28_2 ∧ Aside0 (spec_EndsSpace.j0 kq a0 l1 x28_2 = some (r1, r2, r3)) ∧ Aside0 (kq ≤ k) ∧ Aside0 (wc.heap[gb327]? = some (.cells #[.int .i64 0, (.slice none 0 0)] 28 (0, 0))) ∧ Aside0 (Below w.heap.size w wc))
 case first =>
  have H := HC3.out
  clear HC3
  replace H := Option.bind_eq_some_iff.mp H
  obtain ⟨t328, A50, H⟩ := H
  replace H : (if t328 = true then (spec_EndsSpace.j0 k a0 l1 (decide ((l1.length : Int) > 40))) else (spec_EndsSpace.j0 k a0 l1 true)) = some (r1, r2, r3) := H
  have A5 := Aside0.mk A50
  clear A50
  by_cases c6 : t328 = true
  ·subst c6
   have H1 : (spec_EndsSpace.j0 k a0 l1 (decide ((l1.length : Int) > 40))) = some (r1, r2, r3) := by rw [if_pos rfl] at H; exact H
   clear H
   have H := H1
   clear H1
   have H' := Aside0.mk H
   clear H
   go_wp2_with (((with_reducible refine gate_callee (f := 52) rfl ?_); refine goesL_ (some 22) rfl rfl Try.func52 (by kernel_rfl) rfl #[.int .i64 a0] rfl (by (try simp only [List.map_toArray, List.map_cons, List.map_nil]); rfl) ?_; (with_reducible refine (spec_spItems.calls a0 true _ A5.out).mono ?_); rintro e w' ⟨rfl, ⟨nd, rfl⟩⟩; refine ⟨_, rfl, ?_⟩))
   go_meet
   case rel => exact ⟨_, (decide ((l1.length : Int) > 40)), (by rfl), H', ⟨by omega⟩, ⟨by (with_reducible repeat (refine blk_drewN ?_ _)); exact BK327.out⟩, ⟨by repeat ((with_reducible first | exact HB.out | apply pw_below_drewN))⟩⟩
  ·replace c6 := Bool.eq_false_iff.mpr c6
   subst c6
   have H1 : (spec_EndsSpace.j0 k a0 l1 true) = some (r1, r2, r3) := by rw [if_neg (show ¬ (false = true) by decide)] at H; exact H
   clear H
   have H := H1
   clear H1
   have H' := Aside0.mk H
   clear H
   go_wp2_with (((with_reducible refine gate_callee (f := 52) rfl ?_); refine goesL_ (some 22) rfl rfl Try.func52 (by kernel_rfl) rfl #[.int .i64 a0] rfl (by (try simp only [List.map_toArray, List.map_cons, List.map_nil]); rfl) ?_; (with_reducible refine (spec_spItems.calls a0 false _ A5.out).mono ?_); rintro e w' ⟨rfl, ⟨nd, rfl⟩⟩; refine ⟨_, rfl, ?_⟩))
   go_meet
   case rel => exact ⟨_, (true), (by rfl), H', ⟨by omega⟩, ⟨by (with_reducible repeat (refine blk_drewN ?_ _)); exact BK327.out⟩, ⟨by repeat ((with_reducible first | exact HB.out | apply pw_below_drewN))⟩⟩
 case rest =>
  clear HC3
  try clear c1
  try clear c2
  try clear p2
  try clear c5
  try clear c6
  obtain ⟨kq, x28_2, rfl, HA, HJ2, BK327, HB⟩ := hcut
  cases kq with
  | zero => exact absurd HA.out (by simp [spec_EndsSpace.j0])
  | succ kj2 =>
   have H := HA.out
   clear HA
   simp only [spec_EndsSpace.j0] at H
   by_cases c7 : x28_2 = true
   ·subst c7
    have H1 : (some (0, ([] : List Int), false)) = some (r1, r2, r3) := by rw [if_pos rfl] at H; exact H
    clear H
    have H := H1
    clear H1
    simp only [Option.some.injEq, Prod.mk.injEq] at H
    obtain ⟨rfl, rfl, rfl⟩ := H
    have hcz8_0 : wc.cell? ⟨gb327, 0, none⟩ = some (.int .i64 0) := (blk_cell BK327.out 0).trans rfl
    have hcz8_1 : wc.cell? ⟨gb327, 1, none⟩ = some (.slice none 0 0) := (blk_cell BK327.out 1).trans rfl
    have hfz8_0 := blk_frozen BK327.out 0
    have hfz8_1 := blk_frozen BK327.out 1
    go_wp2
    refine bodyPost_ret (results_ct rfl _ _ gb327 28 #[.int .i64 0, .slice none 0 0] (0, 0) _ rfl (by (with_reducible repeat (refine blk_drew ?_)); refine blk_put (cs := #[.int .i64 0, .slice none 0 0]) ?_ 1 _ rfl; (with_reducible repeat (refine blk_drew ?_)); refine blk_put (cs := #[.int .i64 0, .slice none 0 0]) ?_ 0 _ rfl; (with_reducible repeat (refine blk_drew ?_)); exact BK327.out) Try.underlying28 rfl (by kernel_rfl)) rfl ?_
    exact ⟨_, by rfl, by exact Kd.R_nil _ _ _ _ _, by repeat ((with_reducible first | exact HB.out | refine below_set ?_ GE327.out))⟩
   ·replace c7 := Bool.eq_false_iff.mpr c7
    subst c7
    have H1 : (if 0 ≤ a0 then (if (a0 : Int).toNat ≤ 35184372088832 then (spec_EndsSpace.l0 kj2 a0 (List.replicate (a0 : Int).toNat 0) l1 (l1.length : Int) 0) else (none)) else (none)) = some (r1, r2, r3) := by rw [if_neg (show ¬ (false = true) by decide)] at H; exact H
    clear H
    have H := H1
    clear H1
    by_cases c9 : 0 ≤ a0
    ·rw [if_pos c9] at H
     have c9b0 := eq_true c9
     have c9b1 : decide (0 ≤ a0) = true := decide_eq_true c9
     clear c9
     by_cases c10 : (a0 : Int).toNat ≤ 35184372088832
     ·rw [if_pos c10] at H
      have c10b0 := eq_true c10
      have c10b1 : decide ((a0 : Int).toNat ≤ 35184372088832) = true := decide_eq_true c10
      clear c10
      obtain ⟨y329, hy329⟩ : ∃ y_ : List Int, y_ = (List.replicate (a0 : Int).toNat 0) := ⟨_, rfl⟩
      replace H : (spec_EndsSpace.l0 kj2 a0 y329 l1 (l1.length : Int) 0) = some (r1, r2, r3) := by (rw [hy329]; with_reducible exact H)
      have Ny329 := Aside0.mk hy329
      clear hy329
      have H' := Aside0.mk H
      clear H
      go_wp2_with (((with_reducible refine gate_dst (N := 31) rfl ?_); (try (refine gate_guard (by rfl) ?_; dsimp only)); refine Kd.R_make (Kd.int .i64) _ 3 rfl (N := 31) rfl 22 _ _ rfl a0 rfl rfl Try.underlying22 (.int .i64 0) 8 info3 rfl (by decide) (by omega) 0 (ok := fun _ => True) (okp := fun _ => True) rfl (fun _ hk => hk) trivial (of_decide_eq_true (by (with_reducible assumption))) (Nat.le_trans (Nat.mul_le_mul_right _ (of_decide_eq_true (by (with_reducible assumption)) : a0.toNat ≤ 35184372088832)) (by omega)) (Below.refl _ _) (Nat.le_refl _) ?_; intro v330 w11 ho12 hb hg_ hnew_; clear hg_ hnew_; (rw [← Ny329.out] at ho12); have n0_ := Aside0.mk (Kd.R_lower ho12 (below_size (by repeat ((with_reducible exact HB.out))))); have n1_ := Aside0.mk (blk_below (g := gb327) (o := .cells #[.int .i64 0, .slice none 0 0] 28 (0, 0)) (by (with_reducible repeat (refine blk_drew ?_)); exact BK327.out) hb); have n2_ := Aside0.mk (below_step (by repeat ((with_reducible exact HB.out))) hb); clear BK327; clear HB; have HO331 := n0_; have BK327 := n1_; have HB := n2_; clear n0_ n1_ n2_; clear hb ho12))
      go_loopg [34] kj2 (fun kq v34 w' => ∃ (x6_2 : List Int) (x34_2 : Int) (x328000_2 : Int), v34 = .int .i64 x34_2 ∧ Aside0 (spec_EndsSpace.l0 kq a0 x6_2 l1 (l1.length : Int) x34_2 = some (r1, r2, r3)) ∧ Aside0 (kq ≤ kj2) ∧ Aside0 (Kd.R (Kd.int .i64) 3 w' w.heap.size (fun _ => True) v330 x6_2) ∧ Aside0 (w'.heap[gb327]? = some (.cells #[.int .i64 x328000_2, (.slice none 0 0)] 28 (0, 0))) ∧ Aside0 (Below w.heap.size w w'))
      case atStart => exact ⟨(y329), (0), (0), (by rfl), H', ⟨Nat.le_refl _⟩, ⟨by (with_reducible repeat (apply Kd.R_drew)); exact HO331.out⟩, ⟨by (with_reducible repeat (refine blk_drew ?_)); exact BK327.out⟩, ⟨by repeat ((with_reducible exact HB.out))⟩⟩
      case round =>
       clear H'
       try clear c1
       try clear c2
       try clear p2
       try clear c5
       try clear c6
       try clear c7
       try clear c9
       try clear c9b0
       try clear c9b1
       try clear c10
       try clear c10b0
       try clear c10b1
       try clear hcz8_0
       try clear hcz8_1
       try clear hfz8_0
       try clear hfz8_1
       try clear p2
       obtain ⟨x6_2, x34_2, x328000_2, rfl, HA, HK2, HO_6, BK327, HB⟩ := hrel
       cases gk with
       | zero => exact absurd HA.out (by simp [spec_EndsSpace.l0])
       | succ k2 =>
        have H := HA.out
        clear HA
        simp only [spec_EndsSpace.l0] at H
        by_cases c13 : x34_2 < (l1.length : Int)
        ·rw [if_pos c13] at H
         have c13b0 : decide (x34_2 < (l1.length : Int)) = true := decide_eq_true c13
         clear c13
         by_cases c14 : 0 ≤ x34_2
         ·rw [if_pos c14] at H
          have c14b0 : decide (0 ≤ x34_2) = true := decide_eq_true c14
          clear c14
          by_cases c15 : x34_2 < (l1.length : Int)
          ·rw [if_pos c15] at H
           have c15b0 : decide (x34_2 < (l1.length : Int)) = true := decide_eq_true c15
           clear c15
           by_cases c16 : ((rd_L2 l1 x34_2).length : Int) = 2
           ·rw [if_pos c16] at H
            have c16b0 : (((rd_L2 l1 x34_2).length : Int) == 2) = true := beq_iff_eq.mpr c16
            have c16b1 : (((rd_L2 l1 x34_2).length : Int) != 2) = false := bne_eq_false_iff_eq.mpr c16
            clear c16
            replace H := Option.bind_eq_some_iff.mp H
            obtain ⟨t333, A170, H⟩ := H
            replace H : (if t333 = true then (if 0 < ((rd_L2 l1 x34_2).length : Int) then (if 1 < ((rd_L2 l1 x34_2).length : Int) then (if (rd (rd_L2 l1 x34_2) 0) = (rd (rd_L2 l1 x34_2) 1) then (some (0, ([] : List Int), false)) else (if 0 ≤ (rd (rd_L2 l1 x34_2) 1) then (if (rd (rd_L2 l1 x34_2) 1) < (x6_2.length : Int) then (if 0 ≤ (rd (rd_L2 l1 x34_2) 0) then (spec_EndsSpace.l0 k2 a0 (x6_2.set ((rd (rd_L2 l1 x34_2) 1) : Int).toNat (Go.bits .or .i64 (rd x6_2 (rd (rd_L2 l1 x34_2) 1)) (shl .i64 1 (rd (rd_L2 l1 x34_2) 0)))) l1 (l1.length : Int) (wrap64 (x34_2 + 1))) else (none)) else (none)) else (none))) else (none)) else (none)) else (some (0, ([] : List Int), false))) = some (r1, r2, r3) := H
            have A17 := Aside0.mk A170
            clear A170
            by_cases c18 : t333 = true
            ·subst c18
             have H1 : (if 0 < ((rd_L2 l1 x34_2).length : Int) then (if 1 < ((rd_L2 l1 x34_2).length : Int) then (if (rd (rd_L2 l1 x34_2) 0) = (rd (rd_L2 l1 x34_2) 1) then (some (0, ([] : List Int), false)) else (if 0 ≤ (rd (rd_L2 l1 x34_2) 1) then (if (rd (rd_L2 l1 x34_2) 1) < (x6_2.length : Int) then (if 0 ≤ (rd (rd_L2 l1 x34_2) 0) then (spec_EndsSpace.l0 k2 a0 (x6_2.set ((rd (rd_L2 l1 x34_2) 1) : Int).toNat (Go.bits .or .i64 (rd x6_2 (rd (rd_L2 l1 x34_2) 1)) (shl .i64 1 (rd (rd_L2 l1 x34_2) 0)))) l1 (l1.length : Int) (wrap64 (x34_2 + 1))) else (none)) else (none)) else (none))) else (none)) else (none)) = some (r1, r2, r3) := by rw [if_pos rfl] at H; exact H
             clear H
             have H := H1
             clear H1
             by_cases c19 : 0 < ((rd_L2 l1 x34_2).length : Int)
             ·rw [if_pos c19] at H
              have c19b0 : decide (0 < ((rd_L2 l1 x34_2).length : Int)) = true := decide_eq_true c19
              have c19b1 : decide (0 < (rd_L2 l1 x34_2).length) = true := decide_eq_true (by omega)
              clear c19
              by_cases c20 : 1 < ((rd_L2 l1 x34_2).length : Int)
              ·rw [if_pos c20] at H
               have c20b0 : decide (1 < ((rd_L2 l1 x34_2).length : Int)) = true := decide_eq_true c20
               have c20b1 : decide (1 < (rd_L2 l1 x34_2).length) = true := decide_eq_true (by omega)
               clear c20
               by_cases c21 : (rd (rd_L2 l1 x34_2) 0) = (rd (rd_L2 l1 x34_2) 1)
               ·rw [if_pos c21] at H
                have c21b0 : ((rd (rd_L2 l1 x34_2) 0) == (rd (rd_L2 l1 x34_2) 1)) = true := beq_iff_eq.mpr c21
                have c21b1 : ((rd (rd_L2 l1 x34_2) 0) != (rd (rd_L2 l1 x34_2) 1)) = false := bne_eq_false_iff_eq.mpr c21
                clear c21
                simp only [Option.some.injEq, Prod.mk.injEq] at H
                obtain ⟨rfl, rfl, rfl⟩ := H
                have p332 : 0 ≤ (x34_2 : Int) := of_decide_eq_true (by (with_reducible assumption))
                have q332 : x34_2 < (l1.length : Int) := of_decide_eq_true (by (with_reducible assumption))
                obtain ⟨ad332, A332_0, c332_0, e332, hx332_0, hl332_0, hi332_0⟩ := at_L2 HR1.out x34_2 p332 q332
                cases e332
                replace hx332_0 := (HB.out.cell (World.block_lt_of_cell? w _ hx332_0)).trans hx332_0
                have HR332_0 := Aside0.mk hi332_0
                have HC332_0 := Aside0.mk hl332_0
                clear hi332_0 hl332_0
                replace p332 := eq_true p332
                replace q332 := eq_true q332
                try go_wp2
                have n0_ := Aside0.mk (Kd.R_drew HO_6.out)
                have n1_ := Aside0.mk (blk_drew BK327.out)
                have n2_ := Aside0.mk (below_drew1 HB.out)
                clear HO_6
                clear BK327
                clear HB
                have HO_6 := n0_
                have BK327 := n1_
                have HB := n2_
                clear n0_ n1_ n2_
                have p334 : 0 ≤ (0 : Int) := (by omega)
                have q334 : 0 < ((rd_L2 l1 x34_2).length : Int) := of_decide_eq_true (by (with_reducible assumption))
                obtain ⟨ad334, e334, hx334_0⟩ := Kd.at_int HR332_0.out 0 p334 q334
                have hw334_0 := hx334_0
                (try rw [show ((0 : Int)).toNat = 0 from rfl] at hw334_0)
                skip
                (try rw [Addr.add_zero'] at hw334_0)
                cases e334
                have qi334 : (0 < (rd_L2 l1 x34_2).length) = True := eq_true (by omega)
                (try rw [show ((0 : Int)).toNat = 0 from rfl] at hx334_0)
                (try rw [Addr.add_zero'] at hx334_0)
                replace hx334_0 := (HB.out.cell (World.block_lt_of_cell? w _ hx334_0)).trans hx334_0
                replace p334 := eq_true p334
                replace q334 := eq_true q334
                have p335 : 0 ≤ (1 : Int) := (by omega)
                have q335 : 1 < ((rd_L2 l1 x34_2).length : Int) := of_decide_eq_true (by (with_reducible assumption))
                obtain ⟨ad335, e335, hx335_0⟩ := Kd.at_int HR332_0.out 1 p335 q335
                have hw335_0 := hx335_0
                (try rw [show ((1 : Int)).toNat = 1 from rfl] at hw335_0)
                skip
                (try simp only [Nat.reduceMul, Nat.reduceEqDiff, Go.Addr.add, ↓reduceIte] at hw335_0)
                obtain rfl : ad334 = ad335 := (by injection e335)
                (try simp only [show (1 : Int).toNat = 1 from rfl, Nat.reduceMul, Nat.reduceEqDiff, Go.Addr.add, ↓reduceIte] at hx335_0)
                have qi335 : (1 < (rd_L2 l1 x34_2).length) = True := eq_true (by omega)
                skip
                replace hx335_0 := (HB.out.cell (World.block_lt_of_cell? w _ hx335_0)).trans hx335_0
                replace p335 := eq_true p335
                replace q335 := eq_true q335
                refine start_ (n := 19) (S := fun w' => w'.cell? ad334 = some (.int .i64 (rd (rd_L2 l1 x34_2) 0)) ∧ w'.cell? ⟨ad334.block, ad334.off + 1, none⟩ = some (.int .i64 (rd (rd_L2 l1 x34_2) 1))) (ds := []) #[false, false, false, false, false, false, false, false, false, false, false, false, false, false, false, false, false, false, false] (by kernel_rfl) rfl rfl ⟨((HB.out.cell (World.block_lt_of_cell? w _ hw334_0)).trans hw334_0), ((HB.out.cell (World.block_lt_of_cell? w _ hw335_0)).trans hw335_0)⟩ (fun hHeld => ?_); refine with_tabW spec_EndsSpace.tab7 spec_EndsSpace.bits7 (fun HT_ HW_ => ?_)
                generalize wr.drew = w22 at HO_6 BK327 HB hx334_0 hx335_0 hHeld ⊢
                refine pure_ (i := 0) (N := some 38) (v := ?_) (a' := ?_) #[true, false, false, false, false, false, false, false, false, false, false, false, false, false, false, false, false, false, false] rfl rfl (any_of HT_.out (by kernel_rfl)) (fun _ _ _ h => h) (Or.inl ⟨by rfl, ?_⟩) ?_ ?_
                rotate_left
                ·intro w'
                 go_simp
                 with_reducible rfl
                rotate_left
                ·simp only [Act.put, List.setIfInBounds_toArray, List.set_cons_zero, List.set_cons_succ, i64_w, i32_w]
                 rfl
                refine pure_ (i := 1) (N := some 39) (v := ?_) (a' := ?_) #[true, true, false, false, false, false, false, false, false, false, false, false, false, false, false, false, false, false, false] rfl rfl (any_of HT_.out (by kernel_rfl)) (fun _ _ _ h => h) (Or.inl ⟨by rfl, ?_⟩) ?_ ?_
                rotate_left
                ·intro w'
                 go_simp
                 with_reducible rfl
                rotate_left
                ·simp only [Act.put, List.setIfInBounds_toArray, List.set_cons_zero, List.set_cons_succ, i64_w, i32_w]
                 rfl
                refine pure_ (i := 2) (N := some 40) (v := ?_) (a' := ?_) #[true, true, true, false, false, false, false, false, false, false, false, false, false, false, false, false, false, false, false] rfl rfl (any_of HT_.out (by kernel_rfl)) (fun _ _ _ h => h) (Or.inl ⟨by rfl, ?_⟩) ?_ ?_
                rotate_left
                ·intro w'
                 go_simp
                 with_reducible rfl
                rotate_left
                ·simp only [Act.put, List.setIfInBounds_toArray, List.set_cons_zero, List.set_cons_succ, i64_w, i32_w]
                 rfl
                refine pure_ (i := 3) (N := some 41) (v := ?_) (a' := ?_) #[true, true, true, true, false, false, false, false, false, false, false, false, false, false, false, false, false, false, false] rfl rfl (any_of HT_.out (by kernel_rfl)) (fun _ _ _ h => h) (Or.inl ⟨by rfl, ?_⟩) ?_ ?_
                rotate_left
                ·intro w'
                 go_simp
                 with_reducible rfl
                rotate_left
                ·simp only [Act.put, List.setIfInBounds_toArray, List.set_cons_zero, List.set_cons_succ, i64_w, i32_w]
                 rfl
                refine pure_ (i := 4) (N := some 42) (v := ?_) (a' := ?_) #[true, true, true, true, true, false, false, false, false, false, false, false, false, false, false, false, false, false, false] rfl rfl (any_of HT_.out (by kernel_rfl)) (fun _ _ _ h => h) (Or.inl ⟨by rfl, ?_⟩) ?_ ?_
                rotate_left
                ·intro w'
                 go_simp
                 with_reducible rfl
                rotate_left
                ·simp only [Act.put, List.setIfInBounds_toArray, List.set_cons_zero, List.set_cons_succ, i64_w, i32_w]
                 rfl
                refine pure_ (i := 5) (N := some 43) (v := ?_) (a' := ?_) #[true, true, true, true, true, true, false, false, false, false, false, false, false, false, false, false, false, false, false] rfl rfl (any_of HT_.out (by kernel_rfl)) (fun _ _ _ h => h) (Or.inl ⟨by rfl, ?_⟩) ?_ ?_
                rotate_left
                ·intro w'
                 go_simp
                 with_reducible rfl
                rotate_left
                ·simp only [Act.put, List.setIfInBounds_toArray, List.set_cons_zero, List.set_cons_succ, i64_w, i32_w]
                 rfl
                refine pure_ (i := 6) (N := some 44) (v := ?_) (a' := ?_) #[true, true, true, true, true, true, true, false, false, false, false, false, false, false, false, false, false, false, false] rfl rfl (any_of HT_.out (by kernel_rfl)) (fun _ _ _ h => h) (Or.inl ⟨by rfl, ?_⟩) ?_ ?_
                rotate_left
                ·intro w'
                 go_simp
                 with_reducible rfl
                rotate_left
                ·simp only [Act.put, List.setIfInBounds_toArray, List.set_cons_zero, List.set_cons_succ, i64_w, i32_w]
                 rfl
                refine one_ (i := 7) (N := some 45) #[true, true, true, true, true, true, true, true, false, false, false, false, false, false, false, false, false, false, false] rfl rfl (one_of HT_.out (by kernel_rfl)) (by decide) (fun K hK => ?_)
                refine goes_ Try.func53 (by kernel_rfl) rfl #[.slice (some ad334) (rd_L2 l1 x34_2).length c332_0, .int .i64 0, .int .i64 (wrap64 (a0 - 1))] (by rfl) rfl rfl (by (try simp only [List.map_toArray, List.map_cons, List.map_nil]); rfl) ?_
                with_reducible refine (spec_l1All.calls k2 _ _ (rd_L2 l1 x34_2) 0 (wrap64 (a0 - 1)) true _ ?side1 ?side2 A17.out).mono ?_
                (case side1 => repeat (exact (Kd.C_below HR332_0.out HB.out)))
                (case side2 => exact HC332_0.out)
                rintro e w' ⟨rfl, ⟨nd, rfl⟩⟩
                refine ⟨_, rfl, ?_⟩
                refine hK.out _ _ ⟨((HB.out.cell (World.block_lt_of_cell? w _ hw334_0)).trans hw334_0), ((HB.out.cell (World.block_lt_of_cell? w _ hw335_0)).trans hw335_0)⟩ (fun hHeld => ?_)
                clear hK K
                refine norm_ (a' := ?_) ?_ ?_
                rotate_left
                ·show Act.put _ (some 45) _ = _
                 simp only [Act.put, List.setIfInBounds_toArray, List.set_cons_zero, List.set_cons_succ, i64_w, i32_w]
                 rfl
                refine pure_ (i := 8) (N := some 46) (v := ?_) (a' := ?_) #[true, true, true, true, true, true, true, true, true, false, false, false, false, false, false, false, false, false, false] rfl rfl (any_of HT_.out (by kernel_rfl)) (fun _ _ _ h => h) (Or.inl ⟨by rfl, ?_⟩) ?_ ?_
                rotate_left
                ·intro w'
                 go_simp
                 with_reducible rfl
                rotate_left
                ·simp only [Act.put, List.setIfInBounds_toArray, List.set_cons_zero, List.set_cons_succ, i64_w, i32_w]
                 rfl
                refine pure_ (i := 9) (N := some 47) (v := ?_) (a' := ?_) #[true, true, true, true, true, true, true, true, true, true, false, false, false, false, false, false, false, false, false] rfl rfl (any_of HT_.out (by kernel_rfl)) (fun _ _ _ h => h) (Or.inl ⟨by rfl, ?_⟩) ?_ ?_
                rotate_left
                ·intro w'
                 go_simp
                 with_reducible rfl
                rotate_left
                ·simp only [Act.put, List.setIfInBounds_toArray, List.set_cons_zero, List.set_cons_succ, i64_w, i32_w]
                 rfl
                refine pure_ (i := 10) (N := some 48) (v := ?_) (a' := ?_) #[true, true, true, true, true, true, true, true, true, true, true, false, false, false, false, false, false, false, false] rfl rfl (any_of HT_.out (by kernel_rfl)) (fun _ _ _ h => h) (Or.inl ⟨by rfl, ?_⟩) ?_ ?_
                rotate_left
                ·intro w'
                 go_simp
                 with_reducible rfl
                rotate_left
                ·simp only [Act.put, List.setIfInBounds_toArray, List.set_cons_zero, List.set_cons_succ, i64_w, i32_w]
                 rfl
                refine pure_ (i := 11) (N := some 49) (v := ?_) (a' := ?_) #[true, true, true, true, true, true, true, true, true, true, true, true, false, false, false, false, false, false, false] rfl rfl (any_of HT_.out (by kernel_rfl)) (fun _ _ _ h => h) (Or.inl ⟨by rfl, ?_⟩) ?_ ?_
                rotate_left
                ·intro w'
                 go_simp
                 with_reducible rfl
                rotate_left
                ·simp only [Act.put, List.setIfInBounds_toArray, List.set_cons_zero, List.set_cons_succ, i64_w, i32_w]
                 rfl
                refine pure_ (i := 12) (N := some 50) (v := ?_) (a' := ?_) #[true, true, true, true, true, true, true, true, true, true, true, true, true, false, false, false, false, false, false] rfl rfl (any_of HT_.out (by kernel_rfl)) (fun _ _ _ h => h) (Or.inl ⟨by rfl, ?_⟩) ?_ ?_
                rotate_left
                ·intro w'
                 go_simp
                 with_reducible rfl
                rotate_left
                ·simp only [Act.put, List.setIfInBounds_toArray, List.set_cons_zero, List.set_cons_succ, i64_w, i32_w]
                 rfl
                refine pure_ (i := 14) (N := some 52) (v := ?_) (a' := ?_) #[true, true, true, true, true, true, true, true, true, true, true, true, true, false, true, false, false, false, false] rfl rfl (any_of HT_.out (by kernel_rfl)) (fun _ _ _ h => h) (Or.inl ⟨by rfl, ?_⟩) ?_ ?_
                rotate_left
                ·intro w'
                 go_simp
                 with_reducible rfl
                rotate_left
                ·simp only [Act.put, List.setIfInBounds_toArray, List.set_cons_zero, List.set_cons_succ, i64_w, i32_w]
                 rfl
                refine pure_ (i := 15) (N := some 53) (v := ?_) (a' := ?_) #[true, true, true, true, true, true, true, true, true, true, true, true, true, false, true, true, false, false, false] rfl rfl (any_of HT_.out (by kernel_rfl)) (fun _ _ _ h => h) (Or.inl ⟨by rfl, ?_⟩) ?_ ?_
                rotate_left
                ·intro w'
                 go_simp
                 with_reducible rfl
                rotate_left
                ·simp only [Act.put, List.setIfInBounds_toArray, List.set_cons_zero, List.set_cons_succ, i64_w, i32_w]
                 rfl
                refine take_ (i := 13) (N := some 51) (v := ?_) (a' := ?_) #[true, true, true, true, true, true, true, true, true, true, true, true, true, true, true, true, false, false, false] rfl rfl (take_ofW HT_.out HW_.out (by kernel_rfl)) (fun _ _ _ h => h) (Or.inl ⟨by rfl, ?_⟩) hHeld ?_ ?_
                rotate_left
                ·rintro w' ⟨s0, s1⟩
                 go_simp
                 with_reducible rfl
                rotate_left
                ·simp only [Act.put, List.setIfInBounds_toArray, List.set_cons_zero, List.set_cons_succ, i64_w, i32_w]
                 rfl
                refine take_ (i := 16) (N := some 54) (v := ?_) (a' := ?_) #[true, true, true, true, true, true, true, true, true, true, true, true, true, true, true, true, true, false, false] rfl rfl (take_ofW HT_.out HW_.out (by kernel_rfl)) (fun _ _ _ h => h) (Or.inl ⟨by rfl, ?_⟩) hHeld ?_ ?_
                rotate_left
                ·rintro w' ⟨s0, s1⟩
                 go_simp
                 with_reducible rfl
                rotate_left
                ·simp only [Act.put, List.setIfInBounds_toArray, List.set_cons_zero, List.set_cons_succ, i64_w, i32_w]
                 rfl
                refine pure_ (i := 17) (N := some 55) (v := ?_) (a' := ?_) #[true, true, true, true, true, true, true, true, true, true, true, true, true, true, true, true, true, true, false] rfl rfl (any_of HT_.out (by kernel_rfl)) (fun _ _ _ h => h) (Or.inl ⟨by rfl, ?_⟩) ?_ ?_
                rotate_left
                ·intro w'
                 go_simp
                 with_reducible rfl
                rotate_left
                ·simp only [Act.put, List.setIfInBounds_toArray, List.set_cons_zero, List.set_cons_succ, i64_w, i32_w]
                 rfl
                refine pure_ (i := 18) (N := some 56) (v := ?_) (a' := ?_) #[true, true, true, true, true, true, true, true, true, true, true, true, true, true, true, true, true, true, true] rfl rfl (any_of HT_.out (by kernel_rfl)) (fun _ _ _ h => h) (Or.inl ⟨by rfl, ?_⟩) ?_ ?_
                rotate_left
                ·intro w'
                 go_simp
                 with_reducible rfl
                rotate_left
                ·simp only [Act.put, List.setIfInBounds_toArray, List.set_cons_zero, List.set_cons_succ, i64_w, i32_w]
                 rfl
                refine done_ (done_of HT_.out (by kernel_rfl)) ?_
                have hcz23_0 : w22.cell? ⟨gb327, 0, none⟩ = some (.int .i64 x328000_2) := (blk_cell BK327.out 0).trans rfl
                have hcz23_1 : w22.cell? ⟨gb327, 1, none⟩ = some (.slice none 0 0) := (blk_cell BK327.out 1).trans rfl
                have hfz23_0 := blk_frozen BK327.out 0
                have hfz23_1 := blk_frozen BK327.out 1
                try go_wp2
                refine bodyPost_ret (results_ct rfl _ _ gb327 28 #[.int .i64 0, .slice none 0 0] (0, 0) _ rfl (by (with_reducible repeat (refine blk_drew ?_)); refine blk_put (cs := #[.int .i64 0, .slice none 0 0]) ?_ 1 _ rfl; (with_reducible repeat (refine blk_drew ?_)); refine blk_put (cs := #[.int .i64 x328000_2, .slice none 0 0]) ?_ 0 _ rfl; (with_reducible repeat (refine blk_drewN ?_ _)); exact BK327.out) Try.underlying28 rfl (by kernel_rfl)) rfl ?_
                exact ⟨_, by rfl, by exact Kd.R_nil _ _ _ _ _, by repeat ((with_reducible first | exact HB.out | apply pw_below_drewN | refine below_set ?_ GE327.out))⟩
               ·rw [if_neg c21] at H
                have c21b0 : ((rd (rd_L2 l1 x34_2) 0) == (rd (rd_L2 l1 x34_2) 1)) = false := beq_eq_false_iff_ne.mpr c21
                have c21b1 : ((rd (rd_L2 l1 x34_2) 0) != (rd (rd_L2 l1 x34_2) 1)) = true := bne_iff_ne.mpr c21
                by_cases c24 : 0 ≤ (rd (rd_L2 l1 x34_2) 1)
                ·rw [if_pos c24] at H
                 have c24b0 : decide (0 ≤ (rd (rd_L2 l1 x34_2) 1)) = true := decide_eq_true c24
                 clear c24
                 by_cases c25 : (rd (rd_L2 l1 x34_2) 1) < (x6_2.length : Int)
                 ·rw [if_pos c25] at H
                  have c25b0 : decide ((rd (rd_L2 l1 x34_2) 1) < (x6_2.length : Int)) = true := decide_eq_true c25
                  clear c25
                  by_cases c26 : 0 ≤ (rd (rd_L2 l1 x34_2) 0)
                  ·rw [if_pos c26] at H
                   have c26b0 := eq_true c26
                   have c26b1 : decide (0 ≤ (rd (rd_L2 l1 x34_2) 0)) = true := decide_eq_true c26
                   clear c26
                   obtain ⟨ji27, hji27⟩ : ∃ j_ : Int, (shl .i64 1 (rd (rd_L2 l1 x34_2) 0)) = j_ := ⟨_, rfl⟩
                   replace H : (spec_EndsSpace.l0 k2 a0 (x6_2.set ((rd (rd_L2 l1 x34_2) 1) : Int).toNat (Go.bits .or .i64 (rd x6_2 (rd (rd_L2 l1 x34_2) 1)) (ji27))) l1 (l1.length : Int) (wrap64 (x34_2 + 1))) = some (r1, r2, r3) := by (rw [hji27] at H; exact H)
                   skip
                   have hji27_ : (IntKind.i64.wrap (1 * 2 ^ min (rd (rd_L2 l1 x34_2) 0).toNat 64)) = ji27 := hji27
                   have hji27z : (rd (rd_L2 l1 x34_2) 0) ≤ 64 → (IntKind.i64.wrap (1 * 2 ^ (rd (rd_L2 l1 x34_2) 0).toNat)) = ji27 := shl_small hji27
                   have hji27u : (IntKind.i64.wrap (2 ^ min (rd (rd_L2 l1 x34_2) 0).toNat 64)) = ji27 := by have h_ := hji27_; rw [Int.one_mul] at h_; exact h_
                   have hji27v : (rd (rd_L2 l1 x34_2) 0) ≤ 64 → (IntKind.i64.wrap (2 ^ (rd (rd_L2 l1 x34_2) 0).toNat)) = ji27 := fun hle_ => by have h_ := hji27z hle_; rw [Int.one_mul] at h_; exact h_
                   have hji27y : (wrap64 (1 * 2 ^ min (rd (rd_L2 l1 x34_2) 0).toNat 64)) = ji27 := (i64_w _).symm.trans hji27_
                   have hji27x : (rd (rd_L2 l1 x34_2) 0) ≤ 64 → (wrap64 (1 * 2 ^ (rd (rd_L2 l1 x34_2) 0).toNat)) = ji27 := fun h_ => (i64_w _).symm.trans (hji27z h_)
                   obtain ⟨y339, hy339⟩ : ∃ y_ : List Int, y_ = (x6_2.set ((rd (rd_L2 l1 x34_2) 1) : Int).toNat (Go.bits .or .i64 (rd x6_2 (rd (rd_L2 l1 x34_2) 1)) (ji27))) := ⟨_, rfl⟩
                   replace H : (spec_EndsSpace.l0 k2 a0 y339 l1 (l1.length : Int) (wrap64 (x34_2 + 1))) = some (r1, r2, r3) := by (rw [hy339]; with_reducible exact H)
                   have Ny339 := Aside0.mk hy339
                   clear hy339
                   have H' := Aside0.mk H
                   clear H
                   have p332 : 0 ≤ (x34_2 : Int) := of_decide_eq_true (by (with_reducible assumption))
                   have q332 : x34_2 < (l1.length : Int) := of_decide_eq_true (by (with_reducible assumption))
                   obtain ⟨ad332, A332_0, c332_0, e332, hx332_0, hl332_0, hi332_0⟩ := at_L2 HR1.out x34_2 p332 q332
                   cases e332
                   replace hx332_0 := (HB.out.cell (World.block_lt_of_cell? w _ hx332_0)).trans hx332_0
                   have HR332_0 := Aside0.mk hi332_0
                   have HC332_0 := Aside0.mk hl332_0
                   clear hi332_0 hl332_0
                   replace p332 := eq_true p332
                   replace q332 := eq_true q332
                   try go_wp2
                   have n0_ := Aside0.mk (Kd.R_drew HO_6.out)
                   have n1_ := Aside0.mk (blk_drew BK327.out)
                   have n2_ := Aside0.mk (below_drew1 HB.out)
                   clear HO_6
                   clear BK327
                   clear HB
                   have HO_6 := n0_
                   have BK327 := n1_
                   have HB := n2_
                   clear n0_ n1_ n2_
                   have p334 : 0 ≤ (0 : Int) := (by omega)
                   have q334 : 0 < ((rd_L2 l1 x34_2).length : Int) := of_decide_eq_true (by (with_reducible assumption))
                   obtain ⟨ad334, e334, hx334_0⟩ := Kd.at_int HR332_0.out 0 p334 q334
                   have hw334_0 := hx334_0
                   (try rw [show ((0 : Int)).toNat = 0 from rfl] at hw334_0)
                   skip
                   (try rw [Addr.add_zero'] at hw334_0)
                   cases e334
                   have qi334 : (0 < (rd_L2 l1 x34_2).length) = True := eq_true (by omega)
                   (try rw [show ((0 : Int)).toNat = 0 from rfl] at hx334_0)
                   (try rw [Addr.add_zero'] at hx334_0)
                   replace hx334_0 := (HB.out.cell (World.block_lt_of_cell? w _ hx334_0)).trans hx334_0
                   replace p334 := eq_true p334
                   replace q334 := eq_true q334
                   have p335 : 0 ≤ (1 : Int) := (by omega)
                   have q335 : 1 < ((rd_L2 l1 x34_2).length : Int) := of_decide_eq_true (by (with_reducible assumption))
                   obtain ⟨ad335, e335, hx335_0⟩ := Kd.at_int HR332_0.out 1 p335 q335
                   have hw335_0 := hx335_0
                   (try rw [show ((1 : Int)).toNat = 1 from rfl] at hw335_0)
                   skip
                   (try simp only [Nat.reduceMul, Nat.reduceEqDiff, Go.Addr.add, ↓reduceIte] at hw335_0)
                   obtain rfl : ad334 = ad335 := (by injection e335)
                   (try simp only [show (1 : Int).toNat = 1 from rfl, Nat.reduceMul, Nat.reduceEqDiff, Go.Addr.add, ↓reduceIte] at hx335_0)
                   have qi335 : (1 < (rd_L2 l1 x34_2).length) = True := eq_true (by omega)
                   skip
                   replace hx335_0 := (HB.out.cell (World.block_lt_of_cell? w _ hx335_0)).trans hx335_0
                   replace p335 := eq_true p335
                   replace q335 := eq_true q335
                   refine start_ (n := 19) (S := fun w' => w'.cell? ad334 = some (.int .i64 (rd (rd_L2 l1 x34_2) 0)) ∧ w'.cell? ⟨ad334.block, ad334.off + 1, none⟩ = some (.int .i64 (rd (rd_L2 l1 x34_2) 1))) (ds := []) #[false, false, false, false, false, false, false, false, false, false, false, false, false, false, false, false, false, false, false] (by kernel_rfl) rfl rfl ⟨((HB.out.cell (World.block_lt_of_cell? w _ hw334_0)).trans hw334_0), ((HB.out.cell (World.block_lt_of_cell? w _ hw335_0)).trans hw335_0)⟩ (fun hHeld => ?_); refine with_tabW spec_EndsSpace.tab7 spec_EndsSpace.bits7 (fun HT_ HW_ => ?_)
                   generalize wr.drew = w29 at HO_6 BK327 HB hx334_0 hx335_0 hHeld ⊢
                   refine pure_ (i := 0) (N := some 38) (v := ?_) (a' := ?_) #[true, false, false, false, false, false, false, false, false, false, false, false, false, false, false, false, false, false, false] rfl rfl (any_of HT_.out (by kernel_rfl)) (fun _ _ _ h => h) (Or.inl ⟨by rfl, ?_⟩) ?_ ?_
                   rotate_left
                   ·intro w'
                    go_simp
                    with_reducible rfl
                   rotate_left
                   ·simp only [Act.put, List.setIfInBounds_toArray, List.set_cons_zero, List.set_cons_succ, i64_w, i32_w]
                    rfl
                   refine pure_ (i := 1) (N := some 39) (v := ?_) (a' := ?_) #[true, true, false, false, false, false, false, false, false, false, false, false, false, false, false, false, false, false, false] rfl rfl (any_of HT_.out (by kernel_rfl)) (fun _ _ _ h => h) (Or.inl ⟨by rfl, ?_⟩) ?_ ?_
                   rotate_left
                   ·intro w'
                    go_simp
                    with_reducible rfl
                   rotate_left
                   ·simp only [Act.put, List.setIfInBounds_toArray, List.set_cons_zero, List.set_cons_succ, i64_w, i32_w]
                    rfl
                   refine pure_ (i := 2) (N := some 40) (v := ?_) (a' := ?_) #[true, true, true, false, false, false, false, false, false, false, false, false, false, false, false, false, false, false, false] rfl rfl (any_of HT_.out (by kernel_rfl)) (fun _ _ _ h => h) (Or.inl ⟨by rfl, ?_⟩) ?_ ?_
                   rotate_left
                   ·intro w'
                    go_simp
                    with_reducible rfl
                   rotate_left
                   ·simp only [Act.put, List.setIfInBounds_toArray, List.set_cons_zero, List.set_cons_succ, i64_w, i32_w]
                    rfl
                   refine pure_ (i := 3) (N := some 41) (v := ?_) (a' := ?_) #[true, true, true, true, false, false, false, false, false, false, false, false, false, false, false, false, false, false, false] rfl rfl (any_of HT_.out (by kernel_rfl)) (fun _ _ _ h => h) (Or.inl ⟨by rfl, ?_⟩) ?_ ?_
                   rotate_left
                   ·intro w'
                    go_simp
                    with_reducible rfl
                   rotate_left
                   ·simp only [Act.put, List.setIfInBounds_toArray, List.set_cons_zero, List.set_cons_succ, i64_w, i32_w]
                    rfl
                   refine pure_ (i := 4) (N := some 42) (v := ?_) (a' := ?_) #[true, true, true, true, true, false, false, false, false, false, false, false, false, false, false, false, false, false, false] rfl rfl (any_of HT_.out (by kernel_rfl)) (fun _ _ _ h => h) (Or.inl ⟨by rfl, ?_⟩) ?_ ?_
                   rotate_left
                   ·intro w'
                    go_simp
                    with_reducible rfl
                   rotate_left
                   ·simp only [Act.put, List.setIfInBounds_toArray, List.set_cons_zero, List.set_cons_succ, i64_w, i32_w]
                    rfl
                   refine pure_ (i := 5) (N := some 43) (v := ?_) (a' := ?_) #[true, true, true, true, true, true, false, false, false, false, false, false, false, false, false, false, false, false, false] rfl rfl (any_of HT_.out (by kernel_rfl)) (fun _ _ _ h => h) (Or.inl ⟨by rfl, ?_⟩) ?_ ?_
                   rotate_left
                   ·intro w'
                    go_simp
                    with_reducible rfl
                   rotate_left
                   ·simp only [Act.put, List.setIfInBounds_toArray, List.set_cons_zero, List.set_cons_succ, i64_w, i32_w]
                    rfl
                   refine pure_ (i := 6) (N := some 44) (v := ?_) (a' := ?_) #[true, true, true, true, true, true, true, false, false, false, false, false, false, false, false, false, false, false, false] rfl rfl (any_of HT_.out (by kernel_rfl)) (fun _ _ _ h => h) (Or.inl ⟨by rfl, ?_⟩) ?_ ?_
                   rotate_left
                   ·intro w'
                    go_simp
                    with_reducible rfl
                   rotate_left
                   ·simp only [Act.put, List.setIfInBounds_toArray, List.set_cons_zero, List.set_cons_succ, i64_w, i32_w]
                    rfl
                   refine one_ (i := 7) (N := some 45) #[true, true, true, true, true, true, true, true, false, false, false, false, false, false, false, false, false, false, false] rfl rfl (one_of HT_.out (by kernel_rfl)) (by decide) (fun K hK => ?_)
                   refine goes_ Try.func53 (by kernel_rfl) rfl #[.slice (some ad334) (rd_L2 l1 x34_2).length c332_0, .int .i64 0, .int .i64 (wrap64 (a0 - 1))] (by rfl) rfl rfl (by (try simp only [List.map_toArray, List.map_cons, List.map_nil]); rfl) ?_
                   with_reducible refine (spec_l1All.calls k2 _ _ (rd_L2 l1 x34_2) 0 (wrap64 (a0 - 1)) true _ ?side1 ?side2 A17.out).mono ?_
                   (case side1 => repeat (exact (Kd.C_below HR332_0.out HB.out)))
                   (case side2 => exact HC332_0.out)
                   rintro e w' ⟨rfl, ⟨nd, rfl⟩⟩
                   refine ⟨_, rfl, ?_⟩
                   refine hK.out _ _ ⟨((HB.out.cell (World.block_lt_of_cell? w _ hw334_0)).trans hw334_0), ((HB.out.cell (World.block_lt_of_cell? w _ hw335_0)).trans hw335_0)⟩ (fun hHeld => ?_)
                   clear hK K
                   refine norm_ (a' := ?_) ?_ ?_
                   rotate_left
                   ·show Act.put _ (some 45) _ = _
                    simp only [Act.put, List.setIfInBounds_toArray, List.set_cons_zero, List.set_cons_succ, i64_w, i32_w]
                    rfl
                   refine pure_ (i := 8) (N := some 46) (v := ?_) (a' := ?_) #[true, true, true, true, true, true, true, true, true, false, false, false, false, false, false, false, false, false, false] rfl rfl (any_of HT_.out (by kernel_rfl)) (fun _ _ _ h => h) (Or.inl ⟨by rfl, ?_⟩) ?_ ?_
                   rotate_left
                   ·intro w'
                    go_simp
                    with_reducible rfl
                   rotate_left
                   ·simp only [Act.put, List.setIfInBounds_toArray, List.set_cons_zero, List.set_cons_succ, i64_w, i32_w]
                    rfl
                   refine pure_ (i := 9) (N := some 47) (v := ?_) (a' := ?_) #[true, true, true, true, true, true, true, true, true, true, false, false, false, false, false, false, false, false, false] rfl rfl (any_of HT_.out (by kernel_rfl)) (fun _ _ _ h => h) (Or.inl ⟨by rfl, ?_⟩) ?_ ?_
                   rotate_left
                   ·intro w'
                    go_simp
                    with_reducible rfl
                   rotate_left
                   ·simp only [Act.put, List.setIfInBounds_toArray, List.set_cons_zero, List.set_cons_succ, i64_w, i32_w]
                    rfl
                   refine pure_ (i := 10) (N := some 48) (v := ?_) (a' := ?_) #[true, true, true, true, true, true, true, true, true, true, true, false, false, false, false, false, false, false, false] rfl rfl (any_of HT_.out (by kernel_rfl)) (fun _ _ _ h => h) (Or.inl ⟨by rfl, ?_⟩) ?_ ?_
                   rotate_left
                   ·intro w'
                    go_simp
                    with_reducible rfl
                   rotate_left
                   ·simp only [Act.put, List.setIfInBounds_toArray, List.set_cons_zero, List.set_cons_succ, i64_w, i32_w]
                    rfl
                   refine pure_ (i := 11) (N := some 49) (v := ?_) (a' := ?_) #[true, true, true, true, true, true, true, true, true, true, true, true, false, false, false, false, false, false, false] rfl rfl (any_of HT_.out (by kernel_rfl)) (fun _ _ _ h => h) (Or.inl ⟨by rfl, ?_⟩) ?_ ?_
                   rotate_left
                   ·intro w'
                    go_simp
                    with_reducible rfl
                   rotate_left
                   ·simp only [Act.put, List.setIfInBounds_toArray, List.set_cons_zero, List.set_cons_succ, i64_w, i32_w]
                    rfl
                   refine pure_ (i := 12) (N := some 50) (v := ?_) (a' := ?_) #[true, true, true, true, true, true, true, true, true, true, true, true, true, false, false, false, false, false, false] rfl rfl (any_of HT_.out (by kernel_rfl)) (fun _ _ _ h => h) (Or.inl ⟨by rfl, ?_⟩) ?_ ?_
                   rotate_left
                   ·intro w'
                    go_simp
                    with_reducible rfl
                   rotate_left
                   ·simp only [Act.put, List.setIfInBounds_toArray, List.set_cons_zero, List.set_cons_succ, i64_w, i32_w]
                    rfl
                   refine pure_ (i := 14) (N := some 52) (v := ?_) (a' := ?_) #[true, true, true, true, true, true, true, true, true, true, true, true, true, false, true, false, false, false, false] rfl rfl (any_of HT_.out (by kernel_rfl)) (fun _ _ _ h => h) (Or.inl ⟨by rfl, ?_⟩) ?_ ?_
                   rotate_left
                   ·intro w'
                    go_simp
                    with_reducible rfl
                   rotate_left
                   ·simp only [Act.put, List.setIfInBounds_toArray, List.set_cons_zero, List.set_cons_succ, i64_w, i32_w]
                    rfl
                   refine pure_ (i := 15) (N := some 53) (v := ?_) (a' := ?_) #[true, true, true, true, true, true, true, true, true, true, true, true, true, false, true, true, false, false, false] rfl rfl (any_of HT_.out (by kernel_rfl)) (fun _ _ _ h => h) (Or.inl ⟨by rfl, ?_⟩) ?_ ?_
                   rotate_left
                   ·intro w'
                    go_simp
                    with_reducible rfl
                   rotate_left
                   ·simp only [Act.put, List.setIfInBounds_toArray, List.set_cons_zero, List.set_cons_succ, i64_w, i32_w]
                    rfl
                   refine take_ (i := 13) (N := some 51) (v := ?_) (a' := ?_) #[true, true, true, true, true, true, true, true, true, true, true, true, true, true, true, true, false, false, false] rfl rfl (take_ofW HT_.out HW_.out (by kernel_rfl)) (fun _ _ _ h => h) (Or.inl ⟨by rfl, ?_⟩) hHeld ?_ ?_
                   rotate_left
                   ·rintro w' ⟨s0, s1⟩
                    go_simp
                    with_reducible rfl
                   rotate_left
                   ·simp only [Act.put, List.setIfInBounds_toArray, List.set_cons_zero, List.set_cons_succ, i64_w, i32_w]
                    rfl
                   refine take_ (i := 16) (N := some 54) (v := ?_) (a' := ?_) #[true, true, true, true, true, true, true, true, true, true, true, true, true, true, true, true, true, false, false] rfl rfl (take_ofW HT_.out HW_.out (by kernel_rfl)) (fun _ _ _ h => h) (Or.inl ⟨by rfl, ?_⟩) hHeld ?_ ?_
                   rotate_left
                   ·rintro w' ⟨s0, s1⟩
                    go_simp
                    with_reducible rfl
                   rotate_left
                   ·simp only [Act.put, List.setIfInBounds_toArray, List.set_cons_zero, List.set_cons_succ, i64_w, i32_w]
                    rfl
                   refine pure_ (i := 17) (N := some 55) (v := ?_) (a' := ?_) #[true, true, true, true, true, true, true, true, true, true, true, true, true, true, true, true, true, true, false] rfl rfl (any_of HT_.out (by kernel_rfl)) (fun _ _ _ h => h) (Or.inl ⟨by rfl, ?_⟩) ?_ ?_
                   rotate_left
                   ·intro w'
                    go_simp
                    with_reducible rfl
                   rotate_left
                   ·simp only [Act.put, List.setIfInBounds_toArray, List.set_cons_zero, List.set_cons_succ, i64_w, i32_w]
                    rfl
                   refine pure_ (i := 18) (N := some 56) (v := ?_) (a' := ?_) #[true, true, true, true, true, true, true, true, true, true, true, true, true, true, true, true, true, true, true] rfl rfl (any_of HT_.out (by kernel_rfl)) (fun _ _ _ h => h) (Or.inl ⟨by rfl, ?_⟩) ?_ ?_
                   rotate_left
                   ·intro w'
                    go_simp
                    with_reducible rfl
                   rotate_left
                   ·simp only [Act.put, List.setIfInBounds_toArray, List.set_cons_zero, List.set_cons_succ, i64_w, i32_w]
                    rfl
                   refine done_ (done_of HT_.out (by kernel_rfl)) ?_
                   try go_wp2
                   (try (rw [drewN_self w29]; generalize hq_ : World.drewN w29 _ = w29; have n0_ : Aside0 (Kd.R (Kd.int .i64) 3 w29 w.heap.size (fun _ => True) v330 x6_2) := ⟨by rw [← hq_]; exact (by (with_reducible repeat (apply Kd.R_drewN)); exact HO_6.out)⟩; have n1_ : Aside0 (w29.heap[gb327]? = some (.cells #[.int .i64 x328000_2, .slice none 0 0] 28 (0, 0))) := ⟨by rw [← hq_]; exact (by (with_reducible repeat (refine blk_drewN ?_ _)); exact BK327.out)⟩; have n2_ : Aside0 (Below w.heap.size w w29) := ⟨by rw [← hq_]; exact (by repeat ((with_reducible first | exact HB.out | apply pw_below_drewN)))⟩; clear HO_6 BK327 HB hq_; have HO_6 := n0_; have BK327 := n1_; have HB := n2_; clear n0_ n1_ n2_))
                   have n0_ := Aside0.mk (Kd.R_drew HO_6.out)
                   have n1_ := Aside0.mk (blk_drew BK327.out)
                   have n2_ := Aside0.mk (below_drew1 HB.out)
                   clear HO_6
                   clear BK327
                   clear HB
                   have HO_6 := n0_
                   have BK327 := n1_
                   have HB := n2_
                   clear n0_ n1_ n2_
                   have p336 : 0 ≤ (1 : Int) := (by omega)
                   have q336 : 1 < ((rd_L2 l1 x34_2).length : Int) := of_decide_eq_true (by (with_reducible assumption))
                   obtain ⟨ad336, e336, hx336_0⟩ := Kd.at_int HR332_0.out 1 p336 q336
                   have hw336_0 := hx336_0
                   (try rw [show ((1 : Int)).toNat = 1 from rfl] at hw336_0)
                   skip
                   (try simp only [Nat.reduceMul, Nat.reduceEqDiff, Go.Addr.add, ↓reduceIte] at hw336_0)
                   obtain rfl : ad334 = ad336 := (by injection e336)
                   (try simp only [show (1 : Int).toNat = 1 from rfl, Nat.reduceMul, Nat.reduceEqDiff, Go.Addr.add, ↓reduceIte] at hx336_0)
                   have qi336 : (1 < (rd_L2 l1 x34_2).length) = True := eq_true (by omega)
                   skip
                   replace hx336_0 := (HB.out.cell (World.block_lt_of_cell? w _ hx336_0)).trans hx336_0
                   replace p336 := eq_true p336
                   replace q336 := eq_true q336
                   obtain ⟨Ao31, co31, eo31⟩ := Kd.R_slice HO_6.out
                   (subst eo31)
                   have p337 : 0 ≤ ((rd (rd_L2 l1 x34_2) 1) : Int) := of_decide_eq_true (by (with_reducible assumption))
                   have q337 : (rd (rd_L2 l1 x34_2) 1) < (x6_2.length : Int) := of_decide_eq_true (by (with_reducible assumption))
                   obtain ⟨ad337, e337, hx337_0⟩ := Kd.at_int (Kd.R_reads' HO_6.out).2.2 (rd (rd_L2 l1 x34_2) 1) p337 q337
                   cases e337
                   replace p337 := eq_true p337
                   replace q337 := eq_true q337
                   have p338 : 0 ≤ (0 : Int) := (by omega)
                   have q338 : 0 < ((rd_L2 l1 x34_2).length : Int) := of_decide_eq_true (by (with_reducible assumption))
                   obtain ⟨ad338, e338, hx338_0⟩ := Kd.at_int HR332_0.out 0 p338 q338
                   have hw338_0 := hx338_0
                   (try rw [show ((0 : Int)).toNat = 0 from rfl] at hw338_0)
                   skip
                   (try rw [Addr.add_zero'] at hw338_0)
                   obtain rfl : ad334 = ad338 := (by injection e338)
                   have qi338 : (0 < (rd_L2 l1 x34_2).length) = True := eq_true (by omega)
                   (try rw [show ((0 : Int)).toNat = 0 from rfl] at hx338_0)
                   (try rw [Addr.add_zero'] at hx338_0)
                   replace hx338_0 := (HB.out.cell (World.block_lt_of_cell? w _ hx338_0)).trans hx338_0
                   replace p338 := eq_true p338
                   replace q338 := eq_true q338
                   have p28 : 0 ≤ ((rd (rd_L2 l1 x34_2) 1) : Int) := of_decide_eq_true (by (with_reducible assumption))
                   have q28 : ((rd (rd_L2 l1 x34_2) 1) : Int) < ((x6_2.length : Int) : Int) := of_decide_eq_true (by (with_reducible assumption))
                   obtain ⟨go28, co28, eo28, gb28, gl28, cl28, HG28⟩ := Kd.R_form HO_6.out (by omega)
                   (cases eo28)
                   have GB28 := Aside0.mk gb28
                   have GG28 := Aside0.mk HG28
                   clear gb28 gl28 HG28
                   (simp only [add_plain] at hx337_0)
                   obtain ⟨hx28_0, hf28_0⟩ := Kd.R_celln 0 HO_6.out ((rd (rd_L2 l1 x34_2) 1) : Int) p28 q28
                   replace p28 := eq_true p28
                   replace q28 := eq_true q28
                   have HP32 := Kd.R_putn HO_6.out ((rd (rd_L2 l1 x34_2) 1) : Int) (Go.bits .or .i64 (rd x6_2 (rd (rd_L2 l1 x34_2) 1)) (ji27))
                   rw [← Ny339.out] at HP32
                   have HQ32 := Aside0.mk HP32
                   clear HP32
                   refine start_ (n := 13) (S := fun w' => w'.cell? ⟨ad334.block, ad334.off + 1, none⟩ = some (.int .i64 (rd (rd_L2 l1 x34_2) 1)) ∧ w'.cell? ⟨go28, ((rd (rd_L2 l1 x34_2) 1)).toNat, none⟩ = some (.int .i64 (rd x6_2 (rd (rd_L2 l1 x34_2) 1))) ∧ w'.cell? ad334 = some (.int .i64 (rd (rd_L2 l1 x34_2) 0))) (ds := [12]) #[false, false, false, false, false, false, false, false, false, false, false, false, false] (by kernel_rfl) rfl rfl ⟨((HB.out.cell (World.block_lt_of_cell? w _ hw336_0)).trans hw336_0), hx337_0, ((HB.out.cell (World.block_lt_of_cell? w _ hw338_0)).trans hw338_0)⟩ (fun hHeld => ?_); refine with_tabW spec_EndsSpace.tab9 spec_EndsSpace.bits9 (fun HT_ HW_ => ?_)
                   generalize w29.drew = w30 at HO_6 BK327 HB GG28 HQ32 hf28_0 hx28_0 hx336_0 hx337_0 hx338_0 hHeld ⊢
                   refine pure_ (i := 0) (N := some 58) (v := ?_) (a' := ?_) #[true, false, false, false, false, false, false, false, false, false, false, false, false] rfl rfl (any_of HT_.out (by kernel_rfl)) (fun _ _ _ h => h) (Or.inl ⟨by rfl, ?_⟩) ?_ ?_
                   rotate_left
                   ·intro w'
                    go_simp
                    with_reducible rfl
                   rotate_left
                   ·simp only [Act.put, List.setIfInBounds_toArray, List.set_cons_zero, List.set_cons_succ, i64_w, i32_w]
                    rfl
                   refine pure_ (i := 1) (N := some 59) (v := ?_) (a' := ?_) #[true, true, false, false, false, false, false, false, false, false, false, false, false] rfl rfl (any_of HT_.out (by kernel_rfl)) (fun _ _ _ h => h) (Or.inl ⟨by rfl, ?_⟩) ?_ ?_
                   rotate_left
                   ·intro w'
                    go_simp
                    with_reducible rfl
                   rotate_left
                   ·simp only [Act.put, List.setIfInBounds_toArray, List.set_cons_zero, List.set_cons_succ, i64_w, i32_w]
                    rfl
                   refine pure_ (i := 2) (N := some 60) (v := ?_) (a' := ?_) #[true, true, true, false, false, false, false, false, false, false, false, false, false] rfl rfl (any_of HT_.out (by kernel_rfl)) (fun _ _ _ h => h) (Or.inl ⟨by rfl, ?_⟩) ?_ ?_
                   rotate_left
                   ·intro w'
                    go_simp
                    with_reducible rfl
                   rotate_left
                   ·simp only [Act.put, List.setIfInBounds_toArray, List.set_cons_zero, List.set_cons_succ, i64_w, i32_w]
                    rfl
                   refine pure_ (i := 6) (N := some 64) (v := ?_) (a' := ?_) #[true, true, true, false, false, false, true, false, false, false, false, false, false] rfl rfl (any_of HT_.out (by kernel_rfl)) (fun _ _ _ h => h) (Or.inl ⟨by rfl, ?_⟩) ?_ ?_
                   rotate_left
                   ·intro w'
                    go_simp
                    with_reducible rfl
                   rotate_left
                   ·simp only [Act.put, List.setIfInBounds_toArray, List.set_cons_zero, List.set_cons_succ, i64_w, i32_w]
                    rfl
                   refine pure_ (i := 7) (N := some 65) (v := ?_) (a' := ?_) #[true, true, true, false, false, false, true, true, false, false, false, false, false] rfl rfl (any_of HT_.out (by kernel_rfl)) (fun _ _ _ h => h) (Or.inl ⟨by rfl, ?_⟩) ?_ ?_
                   rotate_left
                   ·intro w'
                    go_simp
                    with_reducible rfl
                   rotate_left
                   ·simp only [Act.put, List.setIfInBounds_toArray, List.set_cons_zero, List.set_cons_succ, i64_w, i32_w]
                    rfl
                   refine take_ (i := 3) (N := some 61) (v := ?_) (a' := ?_) #[true, true, true, true, false, false, true, true, false, false, false, false, false] rfl rfl (take_ofW HT_.out HW_.out (by kernel_rfl)) (fun _ _ _ h => h) (Or.inl ⟨by rfl, ?_⟩) hHeld ?_ ?_
                   rotate_left
                   ·rintro w' ⟨s0, s1, s2⟩
                    go_simp
                    with_reducible rfl
                   rotate_left
                   ·simp only [Act.put, List.setIfInBounds_toArray, List.set_cons_zero, List.set_cons_succ, i64_w, i32_w]
                    rfl
                   refine pure_ (i := 4) (N := some 62) (v := ?_) (a' := ?_) #[true, true, true, true, true, false, true, true, false, false, false, false, false] rfl rfl (any_of HT_.out (by kernel_rfl)) (fun _ _ _ h => h) (Or.inl ⟨by rfl, ?_⟩) ?_ ?_
                   rotate_left
                   ·intro w'
                    go_simp
                    with_reducible rfl
                   rotate_left
                   ·simp only [Act.put, List.setIfInBounds_toArray, List.set_cons_zero, List.set_cons_succ, i64_w, i32_w]
                    rfl
                   refine take_ (i := 5) (N := some 63) (v := ?_) (a' := ?_) #[true, true, true, true, true, true, true, true, false, false, false, false, false] rfl rfl (take_ofW HT_.out HW_.out (by kernel_rfl)) (fun _ _ _ h => h) (Or.inl ⟨by rfl, ?_⟩) hHeld ?_ ?_
                   rotate_left
                   ·rintro w' ⟨s0, s1, s2⟩
                    go_simp
                    with_reducible rfl
                   rotate_left
                   ·simp only [Act.put, List.setIfInBounds_toArray, List.set_cons_zero, List.set_cons_succ, i64_w, i32_w]
                    rfl
                   refine take_ (i := 8) (N := some 66) (v := ?_) (a' := ?_) #[true, true, true, true, true, true, true, true, true, false, false, false, false] rfl rfl (take_ofW HT_.out HW_.out (by kernel_rfl)) (fun _ _ _ h => h) (Or.inl ⟨by rfl, ?_⟩) hHeld ?_ ?_
                   rotate_left
                   ·rintro w' ⟨s0, s1, s2⟩
                    go_simp
                    with_reducible rfl
                   rotate_left
                   ·simp only [Act.put, List.setIfInBounds_toArray, List.set_cons_zero, List.set_cons_succ, i64_w, i32_w]
                    rfl
                   refine pure_ (i := 9) (N := some 67) (v := ?_) (a' := ?_) #[true, true, true, true, true, true, true, true, true, true, false, false, false] rfl rfl (any_of HT_.out (by kernel_rfl)) (fun _ _ _ h => h) (Or.inl ⟨by rfl, ?_⟩) ?_ ?_
                   rotate_left
                   ·intro w'
                    go_simp
                    with_reducible rfl
                   rotate_left
                   ·simp only [Act.put, List.setIfInBounds_toArray, List.set_cons_zero, List.set_cons_succ, i64_w, i32_w]
                    rfl
                   refine pure_ (i := 10) (N := some 68) (v := ?_) (a' := ?_) #[true, true, true, true, true, true, true, true, true, true, true, false, false] rfl rfl (any_of HT_.out (by kernel_rfl)) (fun _ _ _ h => h) (Or.inl ⟨by rfl, ?_⟩) ?_ ?_
                   rotate_left
                   ·intro w'
                    go_simp
                    with_reducible rfl
                   rotate_left
                   ·simp only [Act.put, List.setIfInBounds_toArray, List.set_cons_zero, List.set_cons_succ, i64_w, i32_w]
                    rfl
                   refine pure_ (i := 11) (N := some 69) (v := ?_) (a' := ?_) #[true, true, true, true, true, true, true, true, true, true, true, true, false] rfl rfl (any_of HT_.out (by kernel_rfl)) (fun _ _ _ h => h) (Or.inl ⟨by rfl, ?_⟩) ?_ ?_
                   rotate_left
                   ·intro w'
                    go_simp
                    with_reducible rfl
                   rotate_left
                   ·simp only [Act.put, List.setIfInBounds_toArray, List.set_cons_zero, List.set_cons_succ, i64_w, i32_w]
                    rfl
                   refine last_ (i := 12) (N := none) #[true, true, true, true, true, true, true, true, true, true, true, true, true] rfl rfl (one_of HT_.out (by kernel_rfl)) (by decide) (fun K hK => ?_)
                   refine skip_ (w1 := ?_) (by rfl) rfl ?_ ?_
                   rotate_left
                   ·go_simp
                    rfl
                   refine hK.out _ _ ?_
                   clear hK K
                   refine done_ (done_of HT_.out (by kernel_rfl)) ?_
                   try go_wp2
                   go_roundg k2
                   case measure => have := HJ2.out; have := HK2.out; omega
                   case rel => exact ⟨(y339), (wrap64 (x34_2 + 1)), (x328000_2), (by rfl), H', ⟨by have := HJ2.out; have := HK2.out; omega⟩, ⟨by (with_reducible repeat (apply Kd.R_drew)); exact HQ32.out⟩, ⟨by (with_reducible repeat (refine blk_drew ?_)); refine blk_far ?_ (by have h_ := Kd.R_ne HO_6.out BK327.out (by decide); intro e_; exact h_ (by rw [e_]; rfl)) _; (with_reducible repeat (refine blk_drew ?_)); exact BK327.out⟩, ⟨by repeat ((with_reducible first | exact HB.out | refine below_set ?_ GB28.out))⟩⟩
                  ·rw [if_neg c26] at H
                   exact absurd H (by simp)
                 ·rw [if_neg c25] at H
                  exact absurd H (by simp)
                ·rw [if_neg c24] at H
                 exact absurd H (by simp)
              ·rw [if_neg c20] at H
               exact absurd H (by simp)
             ·rw [if_neg c19] at H
              exact absurd H (by simp)
            ·replace c18 := Bool.eq_false_iff.mpr c18
             subst c18
             have H1 : (some (0, ([] : List Int), false)) = some (r1, r2, r3) := by rw [if_neg (show ¬ (false = true) by decide)] at H; exact H
             clear H
             have H := H1
             clear H1
             simp only [Option.some.injEq, Prod.mk.injEq] at H
             obtain ⟨rfl, rfl, rfl⟩ := H
             have p332 : 0 ≤ (x34_2 : Int) := of_decide_eq_true (by (with_reducible assumption))
             have q332 : x34_2 < (l1.length : Int) := of_decide_eq_true (by (with_reducible assumption))
             obtain ⟨ad332, A332_0, c332_0, e332, hx332_0, hl332_0, hi332_0⟩ := at_L2 HR1.out x34_2 p332 q332
             cases e332
             replace hx332_0 := (HB.out.cell (World.block_lt_of_cell? w _ hx332_0)).trans hx332_0
             have HR332_0 := Aside0.mk hi332_0
             have HC332_0 := Aside0.mk hl332_0
             clear hi332_0 hl332_0
             replace p332 := eq_true p332
             replace q332 := eq_true q332
             try go_wp2
             have n0_ := Aside0.mk (Kd.R_drew HO_6.out)
             have n1_ := Aside0.mk (blk_drew BK327.out)
             have n2_ := Aside0.mk (below_drew1 HB.out)
             clear HO_6
             clear BK327
             clear HB
             have HO_6 := n0_
             have BK327 := n1_
             have HB := n2_
             clear n0_ n1_ n2_
             refine start_ (n := 19) (S := fun w' => True) (ds := []) #[false, false, false, false, false, false, false, false, false, false, false, false, false, false, false, false, false, false, false] (by kernel_rfl) rfl rfl trivial (fun hHeld => ?_); refine with_tabW spec_EndsSpace.tab7 spec_EndsSpace.bits7 (fun HT_ HW_ => ?_)
             generalize wr.drew = w33 at HO_6 BK327 HB hHeld ⊢
             refine pure_ (i := 0) (N := some 38) (v := ?_) (a' := ?_) #[true, false, false, false, false, false, false, false, false, false, false, false, false, false, false, false, false, false, false] rfl rfl (any_of HT_.out (by kernel_rfl)) (fun _ _ _ h => h) (Or.inl ⟨by rfl, ?_⟩) ?_ ?_
             rotate_left
             ·intro w'
              go_simp
              with_reducible rfl
             rotate_left
             ·simp only [Act.put, List.setIfInBounds_toArray, List.set_cons_zero, List.set_cons_succ, i64_w, i32_w]
              rfl
             refine pure_ (i := 1) (N := some 39) (v := ?_) (a' := ?_) #[true, true, false, false, false, false, false, false, false, false, false, false, false, false, false, false, false, false, false] rfl rfl (any_of HT_.out (by kernel_rfl)) (fun _ _ _ h => h) (Or.inl ⟨by rfl, ?_⟩) ?_ ?_
             rotate_left
             ·intro w'
              go_simp
              with_reducible rfl
             rotate_left
             ·simp only [Act.put, List.setIfInBounds_toArray, List.set_cons_zero, List.set_cons_succ, i64_w, i32_w]
              rfl
             refine pure_ (i := 2) (N := some 40) (v := ?_) (a' := ?_) #[true, true, true, false, false, false, false, false, false, false, false, false, false, false, false, false, false, false, false] rfl rfl (any_of HT_.out (by kernel_rfl)) (fun _ _ _ h => h) (Or.inl ⟨by rfl, ?_⟩) ?_ ?_
             rotate_left
             ·intro w'
              go_simp
              with_reducible rfl
             rotate_left
             ·simp only [Act.put, List.setIfInBounds_toArray, List.set_cons_zero, List.set_cons_succ, i64_w, i32_w]
              rfl
             refine pure_ (i := 3) (N := some 41) (v := ?_) (a' := ?_) #[true, true, true, true, false, false, false, false, false, false, false, false, false, false, false, false, false, false, false] rfl rfl (any_of HT_.out (by kernel_rfl)) (fun _ _ _ h => h) (Or.inl ⟨by rfl, ?_⟩) ?_ ?_
             rotate_left
             ·intro w'
              go_simp
              with_reducible rfl
             rotate_left
             ·simp only [Act.put, List.setIfInBounds_toArray, List.set_cons_zero, List.set_cons_succ, i64_w, i32_w]
              rfl
             refine pure_ (i := 4) (N := some 42) (v := ?_) (a' := ?_) #[true, true, true, true, true, false, false, false, false, false, false, false, false, false, false, false, false, false, false] rfl rfl (any_of HT_.out (by kernel_rfl)) (fun _ _ _ h => h) (Or.inl ⟨by rfl, ?_⟩) ?_ ?_
             rotate_left
             ·intro w'
              go_simp
              with_reducible rfl
             rotate_left
             ·simp only [Act.put, List.setIfInBounds_toArray, List.set_cons_zero, List.set_cons_succ, i64_w, i32_w]
              rfl
             refine pure_ (i := 5) (N := some 43) (v := ?_) (a' := ?_) #[true, true, true, true, true, true, false, false, false, false, false, false, false, false, false, false, false, false, false] rfl rfl (any_of HT_.out (by kernel_rfl)) (fun _ _ _ h => h) (Or.inl ⟨by rfl, ?_⟩) ?_ ?_
             rotate_left
             ·intro w'
              go_simp
              with_reducible rfl
             rotate_left
             ·simp only [Act.put, List.setIfInBounds_toArray, List.set_cons_zero, List.set_cons_succ, i64_w, i32_w]
              rfl
             refine pure_ (i := 6) (N := some 44) (v := ?_) (a' := ?_) #[true, true, true, true, true, true, true, false, false, false, false, false, false, false, false, false, false, false, false] rfl rfl (any_of HT_.out (by kernel_rfl)) (fun _ _ _ h => h) (Or.inl ⟨by rfl, ?_⟩) ?_ ?_
             rotate_left
             ·intro w'
              go_simp
              with_reducible rfl
             rotate_left
             ·simp only [Act.put, List.setIfInBounds_toArray, List.set_cons_zero, List.set_cons_succ, i64_w, i32_w]
              rfl
             refine one_ (i := 7) (N := some 45) #[true, true, true, true, true, true, true, true, false, false, false, false, false, false, false, false, false, false, false] rfl rfl (one_of HT_.out (by kernel_rfl)) (by decide) (fun K hK => ?_)
             refine goes_ Try.func53 (by kernel_rfl) rfl #[.slice A332_0 (rd_L2 l1 x34_2).length c332_0, .int .i64 0, .int .i64 (wrap64 (a0 - 1))] (by rfl) rfl rfl (by (try simp only [List.map_toArray, List.map_cons, List.map_nil]); rfl) ?_
             with_reducible refine (spec_l1All.calls k2 _ _ (rd_L2 l1 x34_2) 0 (wrap64 (a0 - 1)) false _ ?side1 ?side2 A17.out).mono ?_
             (case side1 => repeat (exact (Kd.C_below HR332_0.out HB.out)))
             (case side2 => exact HC332_0.out)
             rintro e w' ⟨rfl, ⟨nd, rfl⟩⟩
             refine ⟨_, rfl, ?_⟩
             refine hK.out _ _ trivial (fun hHeld => ?_)
             clear hK K
             refine norm_ (a' := ?_) ?_ ?_
             rotate_left
             ·show Act.put _ (some 45) _ = _
              simp only [Act.put, List.setIfInBounds_toArray, List.set_cons_zero, List.set_cons_succ, i64_w, i32_w]
              rfl
             refine pure_ (i := 8) (N := some 46) (v := ?_) (a' := ?_) #[true, true, true, true, true, true, true, true, true, false, false, false, false, false, false, false, false, false, false] rfl rfl (any_of HT_.out (by kernel_rfl)) (fun _ _ _ h => h) (Or.inl ⟨by rfl, ?_⟩) ?_ ?_
             rotate_left
             ·intro w'
              go_simp
              with_reducible rfl
             rotate_left
             ·simp only [Act.put, List.setIfInBounds_toArray, List.set_cons_zero, List.set_cons_succ, i64_w, i32_w]
              rfl
             refine pure_ (i := 9) (N := some 47) (v := ?_) (a' := ?_) #[true, true, true, true, true, true, true, true, true, true, false, false, false, false, false, false, false, false, false] rfl rfl (any_of HT_.out (by kernel_rfl)) (fun _ _ _ h => h) (Or.inl ⟨by rfl, ?_⟩) ?_ ?_
             rotate_left
             ·intro w'
              go_simp
              with_reducible rfl
             rotate_left
             ·simp only [Act.put, List.setIfInBounds_toArray, List.set_cons_zero, List.set_cons_succ, i64_w, i32_w]
              rfl
             refine pure_ (i := 10) (N := some 48) (v := ?_) (a' := ?_) #[true, true, true, true, true, true, true, true, true, true, true, false, false, false, false, false, false, false, false] rfl rfl (any_of HT_.out (by kernel_rfl)) (fun _ _ _ h => h) (Or.inl ⟨by rfl, ?_⟩) ?_ ?_
             rotate_left
             ·intro w'
              go_simp
              with_reducible rfl
             rotate_left
             ·simp only [Act.put, List.setIfInBounds_toArray, List.set_cons_zero, List.set_cons_succ, i64_w, i32_w]
              rfl
             refine pure_ (i := 11) (N := some 49) (v := undef) (a' := ?_) #[true, true, true, true, true, true, true, true, true, true, true, true, false, false, false, false, false, false, false] rfl rfl (any_of HT_.out (by kernel_rfl)) (fun _ _ _ h => h) (Or.inr ⟨by rfl, rfl⟩) ?_ ?_
             rotate_left
             ·simp only [Act.put, List.setIfInBounds_toArray, List.set_cons_zero, List.set_cons_succ, i64_w, i32_w]
              rfl
             refine pure_ (i := 12) (N := some 50) (v := undef) (a' := ?_) #[true, true, true, true, true, true, true, true, true, true, true, true, true, false, false, false, false, false, false] rfl rfl (any_of HT_.out (by kernel_rfl)) (fun _ _ _ h => h) (Or.inr ⟨by rfl, rfl⟩) ?_ ?_
             rotate_left
             ·simp only [Act.put, List.setIfInBounds_toArray, List.set_cons_zero, List.set_cons_succ, i64_w, i32_w]
              rfl
             refine pure_ (i := 13) (N := some 51) (v := undef) (a' := ?_) #[true, true, true, true, true, true, true, true, true, true, true, true, true, true, false, false, false, false, false] rfl rfl (any_of HT_.out (by kernel_rfl)) (fun _ _ _ h => h) (Or.inr ⟨by rfl, rfl⟩) ?_ ?_
             rotate_left
             ·simp only [Act.put, List.setIfInBounds_toArray, List.set_cons_zero, List.set_cons_succ, i64_w, i32_w]
              rfl
             refine pure_ (i := 14) (N := some 52) (v := undef) (a' := ?_) #[true, true, true, true, true, true, true, true, true, true, true, true, true, true, true, false, false, false, false] rfl rfl (any_of HT_.out (by kernel_rfl)) (fun _ _ _ h => h) (Or.inr ⟨by rfl, rfl⟩) ?_ ?_
             rotate_left
             ·simp only [Act.put, List.setIfInBounds_toArray, List.set_cons_zero, List.set_cons_succ, i64_w, i32_w]
              rfl
             refine pure_ (i := 15) (N := some 53) (v := undef) (a' := ?_) #[true, true, true, true, true, true, true, true, true, true, true, true, true, true, true, true, false, false, false] rfl rfl (any_of HT_.out (by kernel_rfl)) (fun _ _ _ h => h) (Or.inr ⟨by rfl, rfl⟩) ?_ ?_
             rotate_left
             ·simp only [Act.put, List.setIfInBounds_toArray, List.set_cons_zero, List.set_cons_succ, i64_w, i32_w]
              rfl
             refine pure_ (i := 16) (N := some 54) (v := undef) (a' := ?_) #[true, true, true, true, true, true, true, true, true, true, true, true, true, true, true, true, true, false, false] rfl rfl (any_of HT_.out (by kernel_rfl)) (fun _ _ _ h => h) (Or.inr ⟨by rfl, rfl⟩) ?_ ?_
             rotate_left
             ·simp only [Act.put, List.setIfInBounds_toArray, List.set_cons_zero, List.set_cons_succ, i64_w, i32_w]
              rfl
             refine pure_ (i := 17) (N := some 55) (v := undef) (a' := ?_) #[true, true, true, true, true, true, true, true, true, true, true, true, true, true, true, true, true, true, false] rfl rfl (any_of HT_.out (by kernel_rfl)) (fun _ _ _ h => h) (Or.inr ⟨by rfl, rfl⟩) ?_ ?_
             rotate_left
             ·simp only [Act.put, List.setIfInBounds_toArray, List.set_cons_zero, List.set_cons_succ, i64_w, i32_w]
              rfl
             refine pure_ (i := 18) (N := some 56) (v := ?_) (a' := ?_) #[true, true, true, true, true, true, true, true, true, true, true, true, true, true, true, true, true, true, true] rfl rfl (any_of HT_.out (by kernel_rfl)) (fun _ _ _ h => h) (Or.inl ⟨by rfl, ?_⟩) ?_ ?_
             rotate_left
             ·intro w'
              go_simp
              with_reducible rfl
             rotate_left
             ·simp only [Act.put, List.setIfInBounds_toArray, List.set_cons_zero, List.set_cons_succ, i64_w, i32_w]
              rfl
             refine done_ (done_of HT_.out (by kernel_rfl)) ?_
             have hcz34_0 : w33.cell? ⟨gb327, 0, none⟩ = some (.int .i64 x328000_2) := (blk_cell BK327.out 0).trans rfl
             have hcz34_1 : w33.cell? ⟨gb327, 1, none⟩ = some (.slice none 0 0) := (blk_cell BK327.out 1).trans rfl
             have hfz34_0 := blk_frozen BK327.out 0
             have hfz34_1 := blk_frozen BK327.out 1
             try go_wp2
             refine bodyPost_ret (results_ct rfl _ _ gb327 28 #[.int .i64 0, .slice none 0 0] (0, 0) _ rfl (by (with_reducible repeat (refine blk_drew ?_)); refine blk_put (cs := #[.int .i64 0, .slice none 0 0]) ?_ 1 _ rfl; (with_reducible repeat (refine blk_drew ?_)); refine blk_put (cs := #[.int .i64 x328000_2, .slice none 0 0]) ?_ 0 _ rfl; (with_reducible repeat (refine blk_drewN ?_ _)); exact BK327.out) Try.underlying28 rfl (by kernel_rfl)) rfl ?_
             exact ⟨_, by rfl, by exact Kd.R_nil _ _ _ _ _, by repeat ((with_reducible first | exact HB.out | apply pw_below_drewN | refine below_set ?_ GE327.out))⟩
           ·rw [if_neg c16] at H
            have c16b0 : (((rd_L2 l1 x34_2).length : Int) == 2) = false := beq_eq_false_iff_ne.mpr c16
            have c16b1 : (((rd_L2 l1 x34_2).length : Int) != 2) = true := bne_iff_ne.mpr c16
            simp only [Option.some.injEq, Prod.mk.injEq] at H
            obtain ⟨rfl, rfl, rfl⟩ := H
            have p332 : 0 ≤ (x34_2 : Int) := of_decide_eq_true (by (with_reducible assumption))
            have q332 : x34_2 < (l1.length : Int) := of_decide_eq_true (by (with_reducible assumption))
            obtain ⟨ad332, A332_0, c332_0, e332, hx332_0, hl332_0, hi332_0⟩ := at_L2 HR1.out x34_2 p332 q332
            cases e332
            replace hx332_0 := (HB.out.cell (World.block_lt_of_cell? w _ hx332_0)).trans hx332_0
            have HR332_0 := Aside0.mk hi332_0
            have HC332_0 := Aside0.mk hl332_0
            clear hi332_0 hl332_0
            replace p332 := eq_true p332
            replace q332 := eq_true q332
            try go_wp2
            have n0_ := Aside0.mk (Kd.R_drew HO_6.out)
            have n1_ := Aside0.mk (blk_drew BK327.out)
            have n2_ := Aside0.mk (below_drew1 HB.out)
            clear HO_6
            clear BK327
            clear HB
            have HO_6 := n0_
            have BK327 := n1_
            have HB := n2_
            clear n0_ n1_ n2_
            refine start_ (n := 19) (S := fun w' => True) (ds := []) #[false, false, false, false, false, false, false, false, false, false, false, false, false, false, false, false, false, false, false] (by kernel_rfl) rfl rfl trivial (fun hHeld => ?_); refine with_tabW spec_EndsSpace.tab7 spec_EndsSpace.bits7 (fun HT_ HW_ => ?_)
            generalize wr.drew = w35 at HO_6 BK327 HB hHeld ⊢
            refine pure_ (i := 0) (N := some 38) (v := ?_) (a' := ?_) #[true, false, false, false, false, false, false, false, false, false, false, false, false, false, false, false, false, false, false] rfl rfl (any_of HT_.out (by kernel_rfl)) (fun _ _ _ h => h) (Or.inl ⟨by rfl, ?_⟩) ?_ ?_
            rotate_left
            ·intro w'
             go_simp
             with_reducible rfl
            rotate_left
            ·simp only [Act.put, List.setIfInBounds_toArray, List.set_cons_zero, List.set_cons_succ, i64_w, i32_w]
             rfl
            refine pure_ (i := 1) (N := some 39) (v := ?_) (a' := ?_) #[true, true, false, false, false, false, false, false, false, false, false, false, false, false, false, false, false, false, false] rfl rfl (any_of HT_.out (by kernel_rfl)) (fun _ _ _ h => h) (Or.inl ⟨by rfl, ?_⟩) ?_ ?_
            rotate_left
            ·intro w'
             go_simp
             with_reducible rfl
            rotate_left
            ·simp only [Act.put, List.setIfInBounds_toArray, List.set_cons_zero, List.set_cons_succ, i64_w, i32_w]
             rfl
            refine pure_ (i := 2) (N := some 40) (v := ?_) (a' := ?_) #[true, true, true, false, false, false, false, false, false, false, false, false, false, false, false, false, false, false, false] rfl rfl (any_of HT_.out (by kernel_rfl)) (fun _ _ _ h => h) (Or.inl ⟨by rfl, ?_⟩) ?_ ?_
            rotate_left
            ·intro w'
             go_simp
             with_reducible rfl
            rotate_left
            ·simp only [Act.put, List.setIfInBounds_toArray, List.set_cons_zero, List.set_cons_succ, i64_w, i32_w]
             rfl
            refine pure_ (i := 3) (N := some 41) (v := ?_) (a' := ?_) #[true, true, true, true, false, false, false, false, false, false, false, false, false, false, false, false, false, false, false] rfl rfl (any_of HT_.out (by kernel_rfl)) (fun _ _ _ h => h) (Or.inl ⟨by rfl, ?_⟩) ?_ ?_
            rotate_left
            ·intro w'
             go_simp
             with_reducible rfl
            rotate_left
            ·simp only [Act.put, List.setIfInBounds_toArray, List.set_cons_zero, List.set_cons_succ, i64_w, i32_w]
             rfl
            refine pure_ (i := 4) (N := some 42) (v := undef) (a' := ?_) #[true, true, true, true, true, false, false, false, false, false, false, false, false, false, false, false, false, false, false] rfl rfl (any_of HT_.out (by kernel_rfl)) (fun _ _ _ h => h) (Or.inr ⟨by rfl, rfl⟩) ?_ ?_
            rotate_left
            ·simp only [Act.put, List.setIfInBounds_toArray, List.set_cons_zero, List.set_cons_succ, i64_w, i32_w]
             rfl
            refine pure_ (i := 5) (N := some 43) (v := undef) (a' := ?_) #[true, true, true, true, true, true, false, false, false, false, false, false, false, false, false, false, false, false, false] rfl rfl (any_of HT_.out (by kernel_rfl)) (fun _ _ _ h => h) (Or.inr ⟨by rfl, rfl⟩) ?_ ?_
            rotate_left
            ·simp only [Act.put, List.setIfInBounds_toArray, List.set_cons_zero, List.set_cons_succ, i64_w, i32_w]
             rfl
            refine pure_ (i := 6) (N := some 44) (v := undef) (a' := ?_) #[true, true, true, true, true, true, true, false, false, false, false, false, false, false, false, false, false, false, false] rfl rfl (any_of HT_.out (by kernel_rfl)) (fun _ _ _ h => h) (Or.inr ⟨by rfl, rfl⟩) ?_ ?_
            rotate_left
            ·simp only [Act.put, List.setIfInBounds_toArray, List.set_cons_zero, List.set_cons_succ, i64_w, i32_w]
             rfl
            refine pure_ (i := 7) (N := some 45) (v := undef) (a' := ?_) #[true, true, true, true, true, true, true, true, false, false, false, false, false, false, false, false, false, false, false] rfl rfl (any_of HT_.out (by kernel_rfl)) (fun _ _ _ h => h) (Or.inr ⟨by rfl, rfl⟩) ?_ ?_
            rotate_left
            ·simp only [Act.put, List.setIfInBounds_toArray, List.set_cons_zero, List.set_cons_succ, i64_w, i32_w]
             rfl
            refine pure_ (i := 8) (N := some 46) (v := undef) (a' := ?_) #[true, true, true, true, true, true, true, true, true, false, false, false, false, false, false, false, false, false, false] rfl rfl (any_of HT_.out (by kernel_rfl)) (fun _ _ _ h => h) (Or.inr ⟨by rfl, rfl⟩) ?_ ?_
            rotate_left
            ·simp only [Act.put, List.setIfInBounds_toArray, List.set_cons_zero, List.set_cons_succ, i64_w, i32_w]
             rfl
            refine pure_ (i := 9) (N := some 47) (v := ?_) (a' := ?_) #[true, true, true, true, true, true, true, true, true, true, false, false, false, false, false, false, false, false, false] rfl rfl (any_of HT_.out (by kernel_rfl)) (fun _ _ _ h => h) (Or.inl ⟨by rfl, ?_⟩) ?_ ?_
            rotate_left
            ·intro w'
             go_simp
             with_reducible rfl
            rotate_left
            ·simp only [Act.put, List.setIfInBounds_toArray, List.set_cons_zero, List.set_cons_succ, i64_w, i32_w]
             rfl
            refine pure_ (i := 10) (N := some 48) (v := ?_) (a' := ?_) #[true, true, true, true, true, true, true, true, true, true, true, false, false, false, false, false, false, false, false] rfl rfl (any_of HT_.out (by kernel_rfl)) (fun _ _ _ h => h) (Or.inl ⟨by rfl, ?_⟩) ?_ ?_
            rotate_left
            ·intro w'
             go_simp
             with_reducible rfl
            rotate_left
            ·simp only [Act.put, List.setIfInBounds_toArray, List.set_cons_zero, List.set_cons_succ, i64_w, i32_w]
             rfl
            refine pure_ (i := 11) (N := some 49) (v := undef) (a' := ?_) #[true, true, true, true, true, true, true, true, true, true, true, true, false, false, false, false, false, false, false] rfl rfl (any_of HT_.out (by kernel_rfl)) (fun _ _ _ h => h) (Or.inr ⟨by rfl, rfl⟩) ?_ ?_
            rotate_left
            ·simp only [Act.put, List.setIfInBounds_toArray, List.set_cons_zero, List.set_cons_succ, i64_w, i32_w]
             rfl
            refine pure_ (i := 12) (N := some 50) (v := undef) (a' := ?_) #[true, true, true, true, true, true, true, true, true, true, true, true, true, false, false, false, false, false, false] rfl rfl (any_of HT_.out (by kernel_rfl)) (fun _ _ _ h => h) (Or.inr ⟨by rfl, rfl⟩) ?_ ?_
            rotate_left
            ·simp only [Act.put, List.setIfInBounds_toArray, List.set_cons_zero, List.set_cons_succ, i64_w, i32_w]
             rfl
            refine pure_ (i := 13) (N := some 51) (v := undef) (a' := ?_) #[true, true, true, true, true, true, true, true, true, true, true, true, true, true, false, false, false, false, false] rfl rfl (any_of HT_.out (by kernel_rfl)) (fun _ _ _ h => h) (Or.inr ⟨by rfl, rfl⟩) ?_ ?_
            rotate_left
            ·simp only [Act.put, List.setIfInBounds_toArray, List.set_cons_zero, List.set_cons_succ, i64_w, i32_w]
             rfl
            refine pure_ (i := 14) (N := some 52) (v := undef) (a' := ?_) #[true, true, true, true, true, true, true, true, true, true, true, true, true, true, true, false, false, false, false] rfl rfl (any_of HT_.out (by kernel_rfl)) (fun _ _ _ h => h) (Or.inr ⟨by rfl, rfl⟩) ?_ ?_
            rotate_left
            ·simp only [Act.put, List.setIfInBounds_toArray, List.set_cons_zero, List.set_cons_succ, i64_w, i32_w]
             rfl
            refine pure_ (i := 15) (N := some 53) (v := undef) (a' := ?_) #[true, true, true, true, true, true, true, true, true, true, true, true, true, true, true, true, false, false, false] rfl rfl (any_of HT_.out (by kernel_rfl)) (fun _ _ _ h => h) (Or.inr ⟨by rfl, rfl⟩) ?_ ?_
            rotate_left
            ·simp only [Act.put, List.setIfInBounds_toArray, List.set_cons_zero, List.set_cons_succ, i64_w, i32_w]
             rfl
            refine pure_ (i := 16) (N := some 54) (v := undef) (a' := ?_) #[true, true, true, true, true, true, true, true, true, true, true, true, true, true, true, true, true, false, false] rfl rfl (any_of HT_.out (by kernel_rfl)) (fun _ _ _ h => h) (Or.inr ⟨by rfl, rfl⟩) ?_ ?_
            rotate_left
            ·simp only [Act.put, List.setIfInBounds_toArray, List.set_cons_zero, List.set_cons_succ, i64_w, i32_w]
             rfl
            refine pure_ (i := 17) (N := some 55) (v := undef) (a' := ?_) #[true, true, true, true, true, true, true, true, true, true, true, true, true, true, true, true, true, true, false] rfl rfl (any_of HT_.out (by kernel_rfl)) (fun _ _ _ h => h) (Or.inr ⟨by rfl, rfl⟩) ?_ ?_
            rotate_left
            ·simp only [Act.put, List.setIfInBounds_toArray, List.set_cons_zero, List.set_cons_succ, i64_w, i32_w]
             rfl
            refine pure_ (i := 18) (N := some 56) (v := ?_) (a' := ?_) #[true, true, true, true, true, true, true, true, true, true, true, true, true, true, true, true, true, true, true] rfl rfl (any_of HT_.out (by kernel_rfl)) (fun _ _ _ h => h) (Or.inl ⟨by rfl, ?_⟩) ?_ ?_
            rotate_left
            ·intro w'
             go_simp
             with_reducible rfl
            rotate_left
            ·simp only [Act.put, List.setIfInBounds_toArray, List.set_cons_zero, List.set_cons_succ, i64_w, i32_w]
             rfl
            refine done_ (done_of HT_.out (by kernel_rfl)) ?_
            have hcz36_0 : w35.cell? ⟨gb327, 0, none⟩ = some (.int .i64 x328000_2) := (blk_cell BK327.out 0).trans rfl
            have hcz36_1 : w35.cell? ⟨gb327, 1, none⟩ = some (.slice none 0 0) := (blk_cell BK327.out 1).trans rfl
            have hfz36_0 := blk_frozen BK327.out 0
            have hfz36_1 := blk_frozen BK327.out 1
            try go_wp2
            refine bodyPost_ret (results_ct rfl _ _ gb327 28 #[.int .i64 0, .slice none 0 0] (0, 0) _ rfl (by (with_reducible repeat (refine blk_drew ?_)); refine blk_put (cs := #[.int .i64 0, .slice none 0 0]) ?_ 1 _ rfl; (with_reducible repeat (refine blk_drew ?_)); refine blk_put (cs := #[.int .i64 x328000_2, .slice none 0 0]) ?_ 0 _ rfl; (with_reducible repeat (refine blk_drew ?_)); exact BK327.out) Try.underlying28 rfl (by kernel_rfl)) rfl ?_
            exact ⟨_, by rfl, by exact Kd.R_nil _ _ _ _ _, by repeat ((with_reducible first | exact HB.out | refine below_set ?_ GE327.out))⟩
          ·rw [if_neg c15] at H
           exact absurd H (by simp)
         ·rw [if_neg c14] at H
          exact absurd H (by simp)
        ·rw [if_neg c13] at H
         have c13b0 : decide (x34_2 < (l1.length : Int)) = false := decide_eq_false c13
         clear c13
         have H' := Aside0.mk H
         clear H
         go_wp2
         go_loopg [9] k2 (fun kq v9 w' => ∃ (x6_3 : List Int) (x9_3 : Int), v9 = .int .i64 x9_3 ∧ Aside0 (spec_EndsSpace.l1 kq a0 x6_3 x9_3 = some (r1, r2, r3)) ∧ Aside0 (kq ≤ k2) ∧ Aside0 (Kd.R (Kd.int .i64) 3 w' w.heap.size (fun _ => True) v330 x6_3) ∧ Aside0 (w'.heap[gb327]? = some (.cells #[.int .i64 x328000_2, (.slice none 0 0)] 28 (0, 0))) ∧ Aside0 (Below w.heap.size w w'))
         case atStart => exact ⟨(x6_2), (0), (by rfl), H', ⟨Nat.le_refl _⟩, ⟨by (with_reducible repeat (apply Kd.R_drew)); exact HO_6.out⟩, ⟨by (with_reducible repeat (refine blk_drew ?_)); exact BK327.out⟩, ⟨by repeat ((with_reducible exact HB.out))⟩⟩
         case round =>
          clear H'
          try clear c1
          try clear c2
          try clear p2
          try clear q2
          try clear hx2
          try clear hf2
          try clear c3
          try clear p3
          try clear q3
          try clear hx3
          try clear qi3
          try clear c5
          try clear p6
          try clear c13
          try clear c13b0
          try clear c14
          try clear c15
          try clear c16
          try clear c16b0
          try clear c16b1
          try clear c18
          try clear c19
          try clear c20
          try clear c24
          try clear c25
          try clear c26
          try clear p28
          try clear q28
          try clear hx28
          try clear hf28
          try clear c33
          try clear p33
          try clear q33
          try clear hx33
          try clear qi33
          try clear hcz34_0
          try clear hcz34_1
          try clear hcz36_0
          try clear hcz36_1
          try clear hfz34_0
          try clear hfz34_1
          try clear hfz36_0
          try clear hfz36_1
          try clear hx28_0
          try clear hx332_0
          try clear hx336_0
          try clear hx337_0
          try clear hx338_0
          try clear p28
          try clear p332
          try clear p336
          try clear p337
          try clear p338
          try clear q28
          try clear q332
          try clear q336
          try clear q337
          try clear q338
          obtain ⟨x6_3, x9_3, rfl, HA, HK3, HO_6, BK327, HB⟩ := hrel
          cases gk with
          | zero => exact absurd HA.out (by simp [spec_EndsSpace.l1])
          | succ k3 =>
           have H := HA.out
           clear HA
           simp only [spec_EndsSpace.l1] at H
           by_cases c37 : x9_3 < a0
           ·rw [if_pos c37] at H
            have c37b0 : decide (x9_3 < a0) = true := decide_eq_true c37
            clear c37
            have H' := Aside0.mk H
            clear H
            obtain ⟨Ao38, co38, eo38⟩ := Kd.R_slice HO_6.out
            subst eo38
            go_wp2
            go_loopg [78] k3 (fun kq v78 w' => ∃ (x6_4 : List Int) (x78_4 : Int), v78 = .int .i64 x78_4 ∧ Aside0 (spec_EndsSpace.l2 kq a0 x6_4 x9_3 (x6_3.length : Int) x78_4 = some (r1, r2, r3)) ∧ Aside0 (kq ≤ k3) ∧ Aside0 (Kd.R (Kd.int .i64) 3 w' w.heap.size (fun _ => True) (.slice Ao38 x6_3.length co38) x6_4) ∧ Aside0 (w'.heap[gb327]? = some (.cells #[.int .i64 x328000_2, (.slice none 0 0)] 28 (0, 0))) ∧ Aside0 (Below w.heap.size w w'))
            case atStart => exact ⟨(x6_3), (0), (by rfl), H', ⟨Nat.le_refl _⟩, ⟨by (with_reducible repeat (apply Kd.R_drew)); exact HO_6.out⟩, ⟨by (with_reducible repeat (refine blk_drew ?_)); exact BK327.out⟩, ⟨by repeat ((with_reducible exact HB.out))⟩⟩
            case round =>
             clear H'
             try clear c1
             try clear c2
             try clear p2
             try clear q2
             try clear hx2
             try clear hf2
             try clear c3
             try clear p3
             try clear q3
             try clear hx3
             try clear qi3
             try clear c5
             try clear p6
             try clear c13
             try clear c13b0
             try clear c14
             try clear c15
             try clear c16
             try clear c16b0
             try clear c16b1
             try clear c18
             try clear c19
             try clear c20
             try clear c24
             try clear c25
             try clear c26
             try clear p28
             try clear q28
             try clear hx28
             try clear hf28
             try clear c33
             try clear p33
             try clear q33
             try clear hx33
             try clear qi33
             try clear c37
             try clear c37b0
             try clear hcz34_0
             try clear hcz34_1
             try clear hcz36_0
             try clear hcz36_1
             try clear hfz34_0
             try clear hfz34_1
             try clear hfz36_0
             try clear hfz36_1
             try clear hx28_0
             try clear hx332_0
             try clear hx336_0
             try clear hx337_0
             try clear hx338_0
             try clear p2
             try clear p28
             try clear p3
             try clear p33
             try clear p332
             try clear p336
             try clear p337
             try clear p338
             try clear p6
             try clear q2
             try clear q28
             try clear q3
             try clear q33
             try clear q332
             try clear q336
             try clear q337
             try clear q338
             obtain ⟨x6_4, x78_4, rfl, HA, HK4, HO_6, BK327, HB⟩ := hrel
             have hl6_4 := (Kd.R_reads' HO_6.out).1
             rw [hl6_4] at HO_6
             (try simp only [hl6_4])
             skip
             cases gk with
             | zero => exact absurd HA.out (by simp [spec_EndsSpace.l2])
             | succ k4 =>
              have H := HA.out
              clear HA
              simp only [spec_EndsSpace.l2] at H
              by_cases c39 : x78_4 < (x6_3.length : Int)
              ·rw [if_pos c39] at H
               have c39b0 : decide (x78_4 < (x6_3.length : Int)) = true := decide_eq_true c39
               clear c39
               by_cases c40 : 0 ≤ x78_4
               ·rw [if_pos c40] at H
                have c40b0 : decide (0 ≤ x78_4) = true := decide_eq_true c40
                clear c40
                by_cases c41 : x78_4 < (x6_4.length : Int)
                ·rw [if_pos c41] at H
                 have c41b0 : decide (x78_4 < (x6_4.length : Int)) = true := decide_eq_true c41
                 clear c41
                 replace H := Option.bind_eq_some_iff.mp H
                 obtain ⟨t341, A420, H⟩ := H
                 replace H : (if t341 = true then (if 0 ≤ x9_3 then (if x9_3 < (x6_4.length : Int) then (spec_EndsSpace.l2 k4 a0 (x6_4.set (x78_4 : Int).toNat (Go.bits .or .i64 (rd x6_4 x78_4) (rd x6_4 x9_3))) x9_3 (x6_3.length : Int) (wrap64 (x78_4 + 1))) else (none)) else (none)) else (spec_EndsSpace.l2 k4 a0 x6_4 x9_3 (x6_3.length : Int) (wrap64 (x78_4 + 1)))) = some (r1, r2, r3) := H
                 have A42 := Aside0.mk A420
                 clear A420
                 by_cases c43 : t341 = true
                 ·subst c43
                  have H1 : (if 0 ≤ x9_3 then (if x9_3 < (x6_4.length : Int) then (spec_EndsSpace.l2 k4 a0 (x6_4.set (x78_4 : Int).toNat (Go.bits .or .i64 (rd x6_4 x78_4) (rd x6_4 x9_3))) x9_3 (x6_3.length : Int) (wrap64 (x78_4 + 1))) else (none)) else (none)) = some (r1, r2, r3) := by rw [if_pos rfl] at H; exact H
                  clear H
                  have H := H1
                  clear H1
                  by_cases c44 : 0 ≤ x9_3
                  ·rw [if_pos c44] at H
                   have c44b0 : decide (0 ≤ x9_3) = true := decide_eq_true c44
                   clear c44
                   by_cases c45 : x9_3 < (x6_4.length : Int)
                   ·rw [if_pos c45] at H
                    have c45b0 : decide (x9_3 < (x6_4.length : Int)) = true := decide_eq_true c45
                    clear c45
                    obtain ⟨y344, hy344⟩ : ∃ y_ : List Int, y_ = (x6_4.set (x78_4 : Int).toNat (Go.bits .or .i64 (rd x6_4 x78_4) (rd x6_4 x9_3))) := ⟨_, rfl⟩
                    replace H : (spec_EndsSpace.l2 k4 a0 y344 x9_3 (x6_3.length : Int) (wrap64 (x78_4 + 1))) = some (r1, r2, r3) := by (rw [hy344]; with_reducible exact H)
                    have Ny344 := Aside0.mk hy344
                    clear hy344
                    have H' := Aside0.mk H
                    clear H
                    have p340 : 0 ≤ (x78_4 : Int) := of_decide_eq_true (by (with_reducible assumption))
                    have q340 : x78_4 < (x6_4.length : Int) := of_decide_eq_true (by (with_reducible assumption))
                    obtain ⟨ad340, e340, hx340_0⟩ := Kd.at_int (Kd.R_reads' HO_6.out).2.2 x78_4 p340 q340
                    cases e340
                    replace p340 := eq_true p340
                    replace q340 := eq_true q340
                    try go_wp2_with (((with_reducible refine gate_callee (f := 41) rfl ?_); refine goesL_ (some 86) rfl rfl Try.func41 (by kernel_rfl) rfl #[.int .i64 (rd x6_4 x78_4), .int .i64 x9_3] rfl (by (try simp only [List.map_toArray, List.map_cons, List.map_nil]); rfl) ?_; (with_reducible refine (spec_spIn.calls (rd x6_4 x78_4) x9_3 true _ A42.out).mono ?_); rintro e w' ⟨rfl, ⟨nd, rfl⟩⟩; refine ⟨_, rfl, ?_⟩; (try (rw [drewN_self wr]; generalize hq_ : World.drewN wr _ = wr; have n0_ : Aside0 (Kd.R (Kd.int .i64) 3 wr w.heap.size (fun _ => True) (.slice (some ad340) x6_4.length co38) x6_4) := ⟨by rw [← hq_]; exact (by (with_reducible repeat (apply Kd.R_drewN)); exact HO_6.out)⟩; have n1_ : Aside0 (wr.heap[gb327]? = some (.cells #[.int .i64 x328000_2, .slice none 0 0] 28 (0, 0))) := ⟨by rw [← hq_]; exact (by (with_reducible repeat (refine blk_drewN ?_ _)); exact BK327.out)⟩; have n2_ : Aside0 (Below w.heap.size w wr) := ⟨by rw [← hq_]; exact (by repeat ((with_reducible first | exact HB.out | apply pw_below_drewN)))⟩; clear HO_6 BK327 HB hq_; have HO_6 := n0_; have BK327 := n1_; have HB := n2_; clear n0_ n1_ n2_))))
                    have n0_ := Aside0.mk (Kd.R_drew HO_6.out)
                    have n1_ := Aside0.mk (blk_drew BK327.out)
                    have n2_ := Aside0.mk (below_drew1 HB.out)
                    clear HO_6
                    clear BK327
                    clear HB
                    have HO_6 := n0_
                    have BK327 := n1_
                    have HB := n2_
                    clear n0_ n1_ n2_
                    have p342 : 0 ≤ (x78_4 : Int) := of_decide_eq_true (by (with_reducible assumption))
                    have q342 : x78_4 < (x6_4.length : Int) := of_decide_eq_true (by (with_reducible assumption))
                    obtain ⟨ad342, e342, hx342_0⟩ := Kd.at_int (Kd.R_reads' HO_6.out).2.2 x78_4 p342 q342
                    obtain rfl : ad340 = ad342 := (by injection e342)
                    replace p342 := eq_true p342
                    replace q342 := eq_true q342
                    have p343 : 0 ≤ (x9_3 : Int) := of_decide_eq_true (by (with_reducible assumption))
                    have q343 : x9_3 < (x6_4.length : Int) := of_decide_eq_true (by (with_reducible assumption))
                    obtain ⟨ad343, e343, hx343_0⟩ := Kd.at_int (Kd.R_reads' HO_6.out).2.2 x9_3 p343 q343
                    obtain rfl : ad340 = ad343 := (by injection e343)
                    replace p343 := eq_true p343
                    replace q343 := eq_true q343
                    have p46 : 0 ≤ (x78_4 : Int) := of_decide_eq_true (by (with_reducible assumption))
                    have q46 : (x78_4 : Int) < ((x6_4.length : Int) : Int) := of_decide_eq_true (by (with_reducible assumption))
                    obtain ⟨go46, co46, eo46, gb46, gl46, cl46, HG46⟩ := Kd.R_form HO_6.out (by omega)
                    (cases eo46)
                    have GB46 := Aside0.mk gb46
                    have GG46 := Aside0.mk HG46
                    clear gb46 gl46 HG46
                    (simp only [add_plain] at hx340_0)
                    (simp only [add_plain] at hx342_0)
                    (simp only [add_plain] at hx343_0)
                    obtain ⟨hx46_0, hf46_0⟩ := Kd.R_celln 0 HO_6.out (x78_4 : Int) p46 q46
                    replace p46 := eq_true p46
                    replace q46 := eq_true q46
                    have HP48 := Kd.R_putn HO_6.out (x78_4 : Int) (Go.bits .or .i64 (rd x6_4 x78_4) (rd x6_4 x9_3))
                    rw [← Ny344.out] at HP48
                    have HQ48 := Aside0.mk HP48
                    clear HP48
                    refine start_ (n := 11) (S := fun w' => w'.cell? ⟨go46, (x78_4).toNat, none⟩ = some (.int .i64 (rd x6_4 x78_4)) ∧ w'.cell? ⟨go46, (x9_3).toNat, none⟩ = some (.int .i64 (rd x6_4 x9_3))) (ds := [10]) #[false, false, false, false, false, false, false, false, false, false, false] (by kernel_rfl) rfl rfl ⟨hx342_0, hx343_0⟩ (fun hHeld => ?_); refine with_tabW spec_EndsSpace.tab18 spec_EndsSpace.bits18 (fun HT_ HW_ => ?_)
                    generalize wr.drew = w47 at HO_6 BK327 HB GG46 HQ48 hf46_0 hx340_0 hx342_0 hx343_0 hx46_0 hHeld ⊢
                    refine pure_ (i := 0) (N := some 87) (v := ?_) (a' := ?_) #[true, false, false, false, false, false, false, false, false, false, false] rfl rfl (any_of HT_.out (by kernel_rfl)) (fun _ _ _ h => h) (Or.inl ⟨by rfl, ?_⟩) ?_ ?_
                    rotate_left
                    ·intro w'
                     go_simp
                     with_reducible rfl
                    rotate_left
                    ·simp only [Act.put, List.setIfInBounds_toArray, List.set_cons_zero, List.set_cons_succ, i64_w, i32_w]
                     rfl
                    refine pure_ (i := 1) (N := some 88) (v := ?_) (a' := ?_) #[true, true, false, false, false, false, false, false, false, false, false] rfl rfl (any_of HT_.out (by kernel_rfl)) (fun _ _ _ h => h) (Or.inl ⟨by rfl, ?_⟩) ?_ ?_
                    rotate_left
                    ·intro w'
                     go_simp
                     with_reducible rfl
                    rotate_left
                    ·simp only [Act.put, List.setIfInBounds_toArray, List.set_cons_zero, List.set_cons_succ, i64_w, i32_w]
                     rfl
                    refine pure_ (i := 2) (N := some 89) (v := ?_) (a' := ?_) #[true, true, true, false, false, false, false, false, false, false, false] rfl rfl (any_of HT_.out (by kernel_rfl)) (fun _ _ _ h => h) (Or.inl ⟨by rfl, ?_⟩) ?_ ?_
                    rotate_left
                    ·intro w'
                     go_simp
                     with_reducible rfl
                    rotate_left
                    ·simp only [Act.put, List.setIfInBounds_toArray, List.set_cons_zero, List.set_cons_succ, i64_w, i32_w]
                     rfl
                    refine pure_ (i := 4) (N := some 91) (v := ?_) (a' := ?_) #[true, true, true, false, true, false, false, false, false, false, false] rfl rfl (any_of HT_.out (by kernel_rfl)) (fun _ _ _ h => h) (Or.inl ⟨by rfl, ?_⟩) ?_ ?_
                    rotate_left
                    ·intro w'
                     go_simp
                     with_reducible rfl
                    rotate_left
                    ·simp only [Act.put, List.setIfInBounds_toArray, List.set_cons_zero, List.set_cons_succ, i64_w, i32_w]
                     rfl
                    refine pure_ (i := 5) (N := some 92) (v := ?_) (a' := ?_) #[true, true, true, false, true, true, false, false, false, false, false] rfl rfl (any_of HT_.out (by kernel_rfl)) (fun _ _ _ h => h) (Or.inl ⟨by rfl, ?_⟩) ?_ ?_
                    rotate_left
                    ·intro w'
                     go_simp
                     with_reducible rfl
                    rotate_left
                    ·simp only [Act.put, List.setIfInBounds_toArray, List.set_cons_zero, List.set_cons_succ, i64_w, i32_w]
                     rfl
                    refine pure_ (i := 6) (N := some 93) (v := ?_) (a' := ?_) #[true, true, true, false, true, true, true, false, false, false, false] rfl rfl (any_of HT_.out (by kernel_rfl)) (fun _ _ _ h => h) (Or.inl ⟨by rfl, ?_⟩) ?_ ?_
                    rotate_left
                    ·intro w'
                     go_simp
                     with_reducible rfl
                    rotate_left
                    ·simp only [Act.put, List.setIfInBounds_toArray, List.set_cons_zero, List.set_cons_succ, i64_w, i32_w]
                     rfl
                    refine take_ (i := 3) (N := some 90) (v := ?_) (a' := ?_) #[true, true, true, true, true, true, true, false, false, false, false] rfl rfl (take_ofW HT_.out HW_.out (by kernel_rfl)) (fun _ _ _ h => h) (Or.inl ⟨by rfl, ?_⟩) hHeld ?_ ?_
                    rotate_left
                    ·rintro w' ⟨s0, s1⟩
                     go_simp
                     with_reducible rfl
                    rotate_left
                    ·simp only [Act.put, List.setIfInBounds_toArray, List.set_cons_zero, List.set_cons_succ, i64_w, i32_w]
                     rfl
                    refine take_ (i := 7) (N := some 94) (v := ?_) (a' := ?_) #[true, true, true, true, true, true, true, true, false, false, false] rfl rfl (take_ofW HT_.out HW_.out (by kernel_rfl)) (fun _ _ _ h => h) (Or.inl ⟨by rfl, ?_⟩) hHeld ?_ ?_
                    rotate_left
                    ·rintro w' ⟨s0, s1⟩
                     go_simp
                     with_reducible rfl
                    rotate_left
                    ·simp only [Act.put, List.setIfInBounds_toArray, List.set_cons_zero, List.set_cons_succ, i64_w, i32_w]
                     rfl
                    refine pure_ (i := 8) (N := some 95) (v := ?_) (a' := ?_) #[true, true, true, true, true, true, true, true, true, false, false] rfl rfl (any_of HT_.out (by kernel_rfl)) (fun _ _ _ h => h) (Or.inl ⟨by rfl, ?_⟩) ?_ ?_
                    rotate_left
                    ·intro w'
                     go_simp
                     with_reducible rfl
                    rotate_left
                    ·simp only [Act.put, List.setIfInBounds_toArray, List.set_cons_zero, List.set_cons_succ, i64_w, i32_w]
                     rfl
                    refine pure_ (i := 9) (N := some 96) (v := ?_) (a' := ?_) #[true, true, true, true, true, true, true, true, true, true, false] rfl rfl (any_of HT_.out (by kernel_rfl)) (fun _ _ _ h => h) (Or.inl ⟨by rfl, ?_⟩) ?_ ?_
                    rotate_left
                    ·intro w'
                     go_simp
                     with_reducible rfl
                    rotate_left
                    ·simp only [Act.put, List.setIfInBounds_toArray, List.set_cons_zero, List.set_cons_succ, i64_w, i32_w]
                     rfl
                    refine last_ (i := 10) (N := none) #[true, true, true, true, true, true, true, true, true, true, true] rfl rfl (one_of HT_.out (by kernel_rfl)) (by decide) (fun K hK => ?_)
                    refine skip_ (w1 := ?_) (by rfl) rfl ?_ ?_
                    rotate_left
                    ·go_simp
                     rfl
                    refine hK.out _ _ ?_
                    clear hK K
                    refine done_ (done_of HT_.out (by kernel_rfl)) ?_
                    try go_wp2
                    (try simp only [← hl6_4])
                    go_roundg k4
                    case measure => have := HJ2.out; have := HK2.out; have := HK3.out; have := HK4.out; omega
                    case rel => exact ⟨(y344), (wrap64 (x78_4 + 1)), (by rfl), H', ⟨by have := HJ2.out; have := HK2.out; have := HK3.out; have := HK4.out; omega⟩, ⟨by (try simp only [hl6_4]); (with_reducible repeat (apply Kd.R_drew)); exact HQ48.out⟩, ⟨by (with_reducible repeat (refine blk_drew ?_)); refine blk_far ?_ (by have h_ := Kd.R_ne HO_6.out BK327.out (by decide); intro e_; exact h_ (by rw [e_]; rfl)) _; (with_reducible repeat (refine blk_drew ?_)); exact BK327.out⟩, ⟨by repeat ((with_reducible first | exact HB.out | refine below_set ?_ GB46.out))⟩⟩
                   ·rw [if_neg c45] at H
                    exact absurd H (by simp)
                  ·rw [if_neg c44] at H
                   exact absurd H (by simp)
                 ·replace c43 := Bool.eq_false_iff.mpr c43
                  subst c43
                  have H1 : (spec_EndsSpace.l2 k4 a0 x6_4 x9_3 (x6_3.length : Int) (wrap64 (x78_4 + 1))) = some (r1, r2, r3) := by rw [if_neg (show ¬ (false = true) by decide)] at H; exact H
                  clear H
                  have H := H1
                  clear H1
                  have H' := Aside0.mk H
                  clear H
                  have p340 : 0 ≤ (x78_4 : Int) := of_decide_eq_true (by (with_reducible assumption))
                  have q340 : x78_4 < (x6_4.length : Int) := of_decide_eq_true (by (with_reducible assumption))
                  obtain ⟨ad340, e340, hx340_0⟩ := Kd.at_int (Kd.R_reads' HO_6.out).2.2 x78_4 p340 q340
                  cases e340
                  replace p340 := eq_true p340
                  replace q340 := eq_true q340
                  go_wp2_with (((with_reducible refine gate_callee (f := 41) rfl ?_); refine goesL_ (some 86) rfl rfl Try.func41 (by kernel_rfl) rfl #[.int .i64 (rd x6_4 x78_4), .int .i64 x9_3] rfl (by (try simp only [List.map_toArray, List.map_cons, List.map_nil]); rfl) ?_; (with_reducible refine (spec_spIn.calls (rd x6_4 x78_4) x9_3 false _ A42.out).mono ?_); rintro e w' ⟨rfl, ⟨nd, rfl⟩⟩; refine ⟨_, rfl, ?_⟩))
                  (try simp only [← hl6_4])
                  go_roundg k4
                  case measure => have := HJ2.out; have := HK2.out; have := HK3.out; have := HK4.out; omega
                  case rel => exact ⟨(x6_4), (wrap64 (x78_4 + 1)), (by rfl), H', ⟨by have := HJ2.out; have := HK2.out; have := HK3.out; have := HK4.out; omega⟩, ⟨by (try simp only [hl6_4]); (with_reducible repeat (apply Kd.R_drewN)); exact HO_6.out⟩, ⟨by (with_reducible repeat (refine blk_drewN ?_ _)); exact BK327.out⟩, ⟨by repeat ((with_reducible first | exact HB.out | apply pw_below_drewN))⟩⟩
                ·rw [if_neg c41] at H
                 exact absurd H (by simp)
               ·rw [if_neg c40] at H
                exact absurd H (by simp)
              ·rw [if_neg c39] at H
               have c39b0 : decide (x78_4 < (x6_3.length : Int)) = false := decide_eq_false c39
               (try (have c39b9 := c39b0; rw [hl6_4] at c39b9))
               clear c39
               have H' := Aside0.mk H
               clear H
               go_wp2
               (try simp only [← hl6_4])
               go_roundg k4
               case measure => have := HJ2.out; have := HK2.out; have := HK3.out; have := HK4.out; omega
               case rel => exact ⟨(x6_4), (wrap64 (x9_3 + 1)), (by rfl), H', ⟨by have := HJ2.out; have := HK2.out; have := HK3.out; have := HK4.out; omega⟩, ⟨by (try simp only [hl6_4]); (with_reducible repeat (apply Kd.R_drew)); exact HO_6.out⟩, ⟨by (with_reducible repeat (refine blk_drew ?_)); exact BK327.out⟩, ⟨by repeat ((with_reducible exact HB.out))⟩⟩
           ·rw [if_neg c37] at H
            have c37b0 : decide (x9_3 < a0) = false := decide_eq_false c37
            clear c37
            have H' := Aside0.mk H
            clear H
            obtain ⟨Ao49, co49, eo49⟩ := Kd.R_slice HO_6.out
            subst eo49
            go_wp2
            go_loopg [100] k3 (fun kq v100 w' => ∃ (x100_4 : Int) (x328000_4 : Int), v100 = .int .i64 x100_4 ∧ Aside0 (spec_EndsSpace.l3 kq a0 x6_3 x6_3 (x6_3.length : Int) x100_4 = some (r1, r2, r3)) ∧ Aside0 (kq ≤ k3) ∧ Aside0 (Kd.R (Kd.int .i64) 3 w' w.heap.size (fun _ => True) (.slice Ao49 x6_3.length co49) x6_3) ∧ Aside0 (Kd.R (Kd.int .i64) 3 w' w.heap.size (fun _ => True) (.slice Ao49 x6_3.length co49) x6_3) ∧ Aside0 (w'.heap[gb327]? = some (.cells #[.int .i64 x328000_4, (.slice none 0 0)] 28 (0, 0))) ∧ Aside0 (Below w.heap.size w w'))
            case atStart => exact ⟨(0), (x328000_2), (by rfl), H', ⟨Nat.le_refl _⟩, ⟨by (with_reducible repeat (apply Kd.R_drew)); exact HO_6.out⟩, ⟨by (with_reducible repeat (apply Kd.R_drew)); exact HO_6.out⟩, ⟨by (with_reducible repeat (refine blk_drew ?_)); exact BK327.out⟩, ⟨by repeat ((with_reducible exact HB.out))⟩⟩
            case round =>
             clear H'
             try clear c1
             try clear c2
             try clear p2
             try clear q2
             try clear hx2
             try clear hf2
             try clear c3
             try clear p3
             try clear q3
             try clear hx3
             try clear qi3
             try clear c4
             try clear p4
             try clear q4
             try clear hx4
             try clear hf4
             try clear c5
             try clear p6
             try clear c13
             try clear c13b0
             try clear c14
             try clear c15
             try clear c16
             try clear c16b0
             try clear c16b1
             try clear c18
             try clear c19
             try clear c20
             try clear c24
             try clear c25
             try clear c26
             try clear p28
             try clear q28
             try clear hx28
             try clear hf28
             try clear c33
             try clear p33
             try clear q33
             try clear hx33
             try clear qi33
             try clear p34
             try clear q34
             try clear hx34
             try clear c37
             try clear c37b0
             try clear c39
             try clear c39b0
             try clear c40
             try clear c40b0
             try clear c41
             try clear c41b0
             try clear c43
             try clear c44
             try clear c44b0
             try clear c45
             try clear c45b0
             try clear p46
             try clear q46
             try clear hx46
             try clear hf46
             try clear hcz34_0
             try clear hcz34_1
             try clear hcz36_0
             try clear hcz36_1
             try clear hfz34_0
             try clear hfz34_1
             try clear hfz36_0
             try clear hfz36_1
             try clear hx28_0
             try clear hx332_0
             try clear hx336_0
             try clear hx337_0
             try clear hx338_0
             try clear hx340_0
             try clear hx342_0
             try clear hx343_0
             try clear hx46_0
             try clear p2
             try clear p28
             try clear p3
             try clear p33
             try clear p332
             try clear p336
             try clear p337
             try clear p338
             try clear p340
             try clear p342
             try clear p343
             try clear p46
             try clear p6
             try clear q2
             try clear q28
             try clear q3
             try clear q33
             try clear q332
             try clear q336
             try clear q337
             try clear q338
             try clear q340
             try clear q342
             try clear q343
             try clear q46
             obtain ⟨x100_4, x328000_4, rfl, HA, HK4, HO_6, HO_98, BK327, HB⟩ := hrel
             cases gk with
             | zero => exact absurd HA.out (by simp [spec_EndsSpace.l3])
             | succ k4 =>
              have H := HA.out
              clear HA
              simp only [spec_EndsSpace.l3] at H
              by_cases c50 : x100_4 < (x6_3.length : Int)
              ·rw [if_pos c50] at H
               have c50b0 : decide (x100_4 < (x6_3.length : Int)) = true := decide_eq_true c50
               clear c50
               by_cases c51 : 0 ≤ x100_4
               ·rw [if_pos c51] at H
                have c51b0 : decide (0 ≤ x100_4) = true := decide_eq_true c51
                clear c51
                by_cases c52 : x100_4 < (x6_3.length : Int)
                ·rw [if_pos c52] at H
                 have c52b0 : decide (x100_4 < (x6_3.length : Int)) = true := decide_eq_true c52
                 clear c52
                 replace H := Option.bind_eq_some_iff.mp H
                 obtain ⟨t346, A530, H⟩ := H
                 replace H : (if t346 = true then (some (0, ([] : List Int), false)) else (spec_EndsSpace.l3 k4 a0 x6_3 x6_3 (x6_3.length : Int) (wrap64 (x100_4 + 1)))) = some (r1, r2, r3) := H
                 have A53 := Aside0.mk A530
                 clear A530
                 by_cases c54 : t346 = true
                 ·subst c54
                  have H1 : (some (0, ([] : List Int), false)) = some (r1, r2, r3) := by rw [if_pos rfl] at H; exact H
                  clear H
                  have H := H1
                  clear H1
                  simp only [Option.some.injEq, Prod.mk.injEq] at H
                  obtain ⟨rfl, rfl, rfl⟩ := H
                  have p345 : 0 ≤ (x100_4 : Int) := of_decide_eq_true (by (with_reducible assumption))
                  have q345 : x100_4 < (x6_3.length : Int) := of_decide_eq_true (by (with_reducible assumption))
                  obtain ⟨ad345, e345, hx345_0⟩ := Kd.at_int (Kd.R_reads' HO_98.out).2.2 x100_4 p345 q345
                  cases e345
                  replace p345 := eq_true p345
                  replace q345 := eq_true q345
                  go_wp2_with (((with_reducible refine gate_callee (f := 41) rfl ?_); refine goesL_ (some 107) rfl rfl Try.func41 (by kernel_rfl) rfl #[.int .i64 (rd x6_3 x100_4), .int .i64 x100_4] rfl (by (try simp only [List.map_toArray, List.map_cons, List.map_nil]); rfl) ?_; (with_reducible refine (spec_spIn.calls (rd x6_3 x100_4) x100_4 true _ A53.out).mono ?_); rintro e w' ⟨rfl, ⟨nd, rfl⟩⟩; refine ⟨_, rfl, ?_⟩; (try (rw [drewN_self wr]; generalize hq_ : World.drewN wr _ = wr; have n0_ : Aside0 (Kd.R (Kd.int .i64) 3 wr w.heap.size (fun _ => True) (.slice (some ad345) x6_3.length co49) x6_3) := ⟨by rw [← hq_]; exact (by (with_reducible repeat (apply Kd.R_drewN)); exact HO_6.out)⟩; have n1_ : Aside0 (Kd.R (Kd.int .i64) 3 wr w.heap.size (fun _ => True) (.slice (some ad345) x6_3.length co49) x6_3) := ⟨by rw [← hq_]; exact (by (with_reducible repeat (apply Kd.R_drewN)); exact HO_98.out)⟩; have n2_ : Aside0 (wr.heap[gb327]? = some (.cells #[.int .i64 x328000_4, .slice none 0 0] 28 (0, 0))) := ⟨by rw [← hq_]; exact (by (with_reducible repeat (refine blk_drewN ?_ _)); exact BK327.out)⟩; have n3_ : Aside0 (Below w.heap.size w wr) := ⟨by rw [← hq_]; exact (by repeat ((with_reducible first | exact HB.out | apply pw_below_drewN)))⟩; clear HO_6 HO_98 BK327 HB hq_; have HO_6 := n0_; have HO_98 := n1_; have BK327 := n2_; have HB := n3_; clear n0_ n1_ n2_ n3_)); have hcz55_0 : wr.cell? ⟨gb327, 0, none⟩ = some (.int .i64 x328000_4) := (blk_cell BK327.out 0).trans rfl; have hcz55_1 : wr.cell? ⟨gb327, 1, none⟩ = some (.slice none 0 0) := (blk_cell BK327.out 1).trans rfl; have hfz55_0 := blk_frozen BK327.out 0; have hfz55_1 := blk_frozen BK327.out 1))
                  refine bodyPost_ret (results_ct rfl _ _ gb327 28 #[.int .i64 0, .slice none 0 0] (0, 0) _ rfl (by (with_reducible repeat (refine blk_drew ?_)); refine blk_put (cs := #[.int .i64 0, .slice none 0 0]) ?_ 1 _ rfl; (with_reducible repeat (refine blk_drew ?_)); refine blk_put (cs := #[.int .i64 x328000_4, .slice none 0 0]) ?_ 0 _ rfl; (with_reducible repeat (refine blk_drew ?_)); exact BK327.out) Try.underlying28 rfl (by kernel_rfl)) rfl ?_
                  exact ⟨_, by rfl, by exact Kd.R_nil _ _ _ _ _, by repeat ((with_reducible first | exact HB.out | refine below_set ?_ GE327.out))⟩
                 ·replace c54 := Bool.eq_false_iff.mpr c54
                  subst c54
                  have H1 : (spec_EndsSpace.l3 k4 a0 x6_3 x6_3 (x6_3.length : Int) (wrap64 (x100_4 + 1))) = some (r1, r2, r3) := by rw [if_neg (show ¬ (false = true) by decide)] at H; exact H
                  clear H
                  have H := H1
                  clear H1
                  have H' := Aside0.mk H
                  clear H
                  have p345 : 0 ≤ (x100_4 : Int) := of_decide_eq_true (by (with_reducible assumption))
                  have q345 : x100_4 < (x6_3.length : Int) := of_decide_eq_true (by (with_reducible assumption))
                  obtain ⟨ad345, e345, hx345_0⟩ := Kd.at_int (Kd.R_reads' HO_98.out).2.2 x100_4 p345 q345
                  cases e345
                  replace p345 := eq_true p345
                  replace q345 := eq_true q345
                  go_wp2_with (((with_reducible refine gate_callee (f := 41) rfl ?_); refine goesL_ (some 107) rfl rfl Try.func41 (by kernel_rfl) rfl #[.int .i64 (rd x6_3 x100_4), .int .i64 x100_4] rfl (by (try simp only [List.map_toArray, List.map_cons, List.map_nil]); rfl) ?_; (with_reducible refine (spec_spIn.calls (rd x6_3 x100_4) x100_4 false _ A53.out).mono ?_); rintro e w' ⟨rfl, ⟨nd, rfl⟩⟩; refine ⟨_, rfl, ?_⟩))
                  go_roundg k4
                  case measure => have := HJ2.out; have := HK2.out; have := HK3.out; have := HK4.out; omega
                  case rel => exact ⟨(wrap64 (x100_4 + 1)), (x328000_4), (by rfl), H', ⟨by have := HJ2.out; have := HK2.out; have := HK3.out; have := HK4.out; omega⟩, ⟨by (with_reducible repeat (apply Kd.R_drewN)); exact HO_6.out⟩, ⟨by (with_reducible repeat (apply Kd.R_drewN)); exact HO_98.out⟩, ⟨by (with_reducible repeat (refine blk_drewN ?_ _)); exact BK327.out⟩, ⟨by repeat ((with_reducible first | exact HB.out | apply pw_below_drewN))⟩⟩
                ·rw [if_neg c52] at H
                 exact absurd H (by simp)
               ·rw [if_neg c51] at H
                exact absurd H (by simp)
              ·rw [if_neg c50] at H
               have c50b0 : decide (x100_4 < (x6_3.length : Int)) = false := decide_eq_false c50
               clear c50
               by_cases c56 : 0 ≤ a0
               ·rw [if_pos c56] at H
                have c56b0 := eq_true c56
                have c56b1 : decide (0 ≤ a0) = true := decide_eq_true c56
                clear c56
                obtain ⟨ji57, hji57⟩ : ∃ j_ : Int, (shl .i64 1 a0) = j_ := ⟨_, rfl⟩
                replace H : (spec_EndsSpace.l4 k4 x6_3 (wrap64 ((ji57) - 1)) 0 a0 ([] : List Int)) = some (r1, r2, r3) := by (rw [hji57] at H; exact H)
                have hji57_ : (IntKind.i64.wrap (1 * 2 ^ min a0.toNat 64)) = ji57 := hji57
                have hji57z : a0 ≤ 64 → (IntKind.i64.wrap (1 * 2 ^ a0.toNat)) = ji57 := shl_small hji57
                have hji57u : (IntKind.i64.wrap (2 ^ min a0.toNat 64)) = ji57 := by have h_ := hji57_; rw [Int.one_mul] at h_; exact h_
                have hji57v : a0 ≤ 64 → (IntKind.i64.wrap (2 ^ a0.toNat)) = ji57 := fun hle_ => by have h_ := hji57z hle_; rw [Int.one_mul] at h_; exact h_
                have hji57y : (wrap64 (1 * 2 ^ min a0.toNat 64)) = ji57 := (i64_w _).symm.trans hji57_
                have hji57x : a0 ≤ 64 → (wrap64 (1 * 2 ^ a0.toNat)) = ji57 := fun h_ => (i64_w _).symm.trans (hji57z h_)
                have H' := Aside0.mk H
                clear H
                go_wp2_with (((with_reducible refine gate_dst (N := 13) rfl ?_); (try (refine gate_guard (by rfl) ?_; dsimp only)); refine box_event ?hg (N := 13) ?hd (cs := #[.int .i64 0, .slice none 0 0]) (t := 28) ?hr ?_; (case hd => rfl); (case hg => rfl); (case hr => (go_simp; done)); intro gb347 hg w58 hbox hb; have n0_ := Aside0.mk (Kd.R_below (by (with_reducible repeat (apply Kd.R_drew)); exact HO_6.out) hb); have n1_ := Aside0.mk (Kd.R_below (by (with_reducible repeat (apply Kd.R_drew)); exact HO_98.out) hb); have n2_ := Aside0.mk (blk_below (g := gb327) (o := .cells #[.int .i64 x328000_4, .slice none 0 0] 28 (0, 0)) (by (with_reducible repeat (refine blk_drew ?_)); exact BK327.out) hb); have n3_ := Aside0.mk (below_step (by repeat ((with_reducible exact HB.out))) hb); have n4_ := Aside0.mk (hbox); have n5_ := Aside0.mk ((by rw [hg]; exact (below_size (by repeat ((with_reducible exact HB.out)))) : w.heap.size ≤ gb347)); have n6_ := Aside0.mk ((by rw [hg]; exact (below_size (by repeat ((with_reducible exact HB.out)))) : w.heap.size ≤ gb347)); have n7_ := Aside0.mk ((by rw [hg]; exact Nat.ne_of_lt (blk_lt (g := gb327) (o := .cells #[.int .i64 x328000_4, .slice none 0 0] 28 (0, 0)) (by (with_reducible repeat (refine blk_drew ?_)); exact BK327.out)) : gb327 ≠ gb347)); have n8_ := Aside0.mk ((by rw [hg]; exact Nat.ne_of_gt (blk_lt (g := gb327) (o := .cells #[.int .i64 x328000_4, .slice none 0 0] 28 (0, 0)) (by (with_reducible repeat (refine blk_drew ?_)); exact BK327.out)) : gb347 ≠ gb327)); clear HO_6; clear HO_98; clear BK327; clear HB; have HO_6 := n0_; have HO_98 := n1_; have BK327 := n2_; have HB := n3_; have BK347 := n4_; have GW347 := n5_; have GE347 := n6_; have NB327_347 := n7_; have NB347_327 := n8_; clear n0_ n1_ n2_ n3_ n4_ n5_ n6_ n7_ n8_; clear hb hbox hg; have hnb59 := NB347_327.out; have hnc59 := NB327_347.out; have hcz60_0 : w58.cell? ⟨gb347, 0, none⟩ = some (.int .i64 0) := (blk_cell BK347.out 0).trans rfl; have hcz60_1 : w58.cell? ⟨gb347, 1, none⟩ = some (.slice none 0 0) := (blk_cell BK347.out 1).trans rfl; have hfz60_0 := blk_frozen BK347.out 0; have hfz60_1 := blk_frozen BK347.out 1))
                go_loopg [15] k4 (fun kq v15 w' => ∃ (x15_5 : Int) (x348001_5 : List Int) (u348001 : Value), v15 = .int .i64 x15_5 ∧ Aside0 (spec_EndsSpace.l4 kq x6_3 (wrap64 ((ji57) - 1)) x15_5 a0 x348001_5 = some (r1, r2, r3)) ∧ Aside0 (kq ≤ k4) ∧ Aside0 (Kd.R (Kd.int .i64) 3 w' w.heap.size (fun k_ => some k_ ≠ (u348001 : Value).ownBlock) (.slice Ao49 x6_3.length co49) x6_3) ∧ Aside0 (Kd.R (Kd.int .i64) 3 w' w.heap.size (fun k_ => some k_ ≠ ((.slice Ao49 x6_3.length co49) : Value).ownBlock) u348001 x348001_5) ∧ Aside0 (w'.heap[gb327]? = some (.cells #[.int .i64 x328000_4, (.slice none 0 0)] 28 (0, 0))) ∧ Aside0 (w'.heap[gb347]? = some (.cells #[.int .i64 a0, u348001] 28 (0, 0))) ∧ Aside0 (Below w.heap.size w w'))
                case atStart => exact ⟨(0), (([] : List Int)), (.slice none 0 0), (by rfl), H', ⟨Nat.le_refl _⟩, ⟨by (with_reducible repeat (apply Kd.R_drew)); exact Kd.R_mono (Kd.R_far (p := ⟨gb347, 1, none⟩) (Kd.R_far (p := ⟨gb347, 0, none⟩) (Kd.R_types HO_6.out BK347.out (by decide)) (fun _ hk => hk.2) (.int .i64 a0)) (fun _ hk => hk.2) (.slice none 0 0)) (fun _ hk => (by simp [Value.ownBlock]))⟩, ⟨by exact Kd.R_nil _ _ _ _ _⟩, ⟨by (with_reducible repeat (refine blk_drew ?_)); refine blk_far ?_ NB327_347.out _; (with_reducible repeat (refine blk_drew ?_)); refine blk_far ?_ NB327_347.out _; (with_reducible repeat (refine blk_drew ?_)); exact BK327.out⟩, ⟨by (with_reducible repeat (refine blk_drew ?_)); refine blk_put (cs := #[.int .i64 a0, .slice none 0 0]) ?_ 1 _ rfl; (with_reducible repeat (refine blk_drew ?_)); refine blk_put (cs := #[.int .i64 0, .slice none 0 0]) ?_ 0 _ rfl; (with_reducible repeat (refine blk_drew ?_)); exact BK347.out⟩, ⟨by repeat ((with_reducible first | exact HB.out | refine below_set ?_ GE347.out))⟩⟩
                case round =>
                 clear H'
                 try clear c1
                 try clear c2
                 try clear p2
                 try clear q2
                 try clear hx2
                 try clear hf2
                 try clear c3
                 try clear p3
                 try clear q3
                 try clear hx3
                 try clear qi3
                 try clear c4
                 try clear p4
                 try clear q4
                 try clear hx4
                 try clear hf4
                 try clear c5
                 try clear p6
                 try clear c13
                 try clear c13b0
                 try clear c14
                 try clear c15
                 try clear c16
                 try clear c16b0
                 try clear c16b1
                 try clear c18
                 try clear c19
                 try clear c20
                 try clear c24
                 try clear c25
                 try clear c26
                 try clear p28
                 try clear q28
                 try clear hx28
                 try clear hf28
                 try clear c33
                 try clear p33
                 try clear q33
                 try clear hx33
                 try clear qi33
                 try clear p34
                 try clear q34
                 try clear hx34
                 try clear c37
                 try clear c37b0
                 try clear c39
                 try clear c39b0
                 try clear c40
                 try clear c40b0
                 try clear c41
                 try clear c41b0
                 try clear c43
                 try clear c44
                 try clear c44b0
                 try clear c45
                 try clear c45b0
                 try clear p46
                 try clear q46
                 try clear hx46
                 try clear hf46
                 try clear c50
                 try clear c50b0
                 try clear c51
                 try clear c51b0
                 try clear c52
                 try clear c52b0
                 try clear c54
                 try clear c56
                 try clear c56b0
                 try clear c56b1
                 try clear c59
                 try clear hcz34_0
                 try clear hcz34_1
                 try clear hcz36_0
                 try clear hcz36_1
                 try clear hcz55_0
                 try clear hcz55_1
                 try clear hcz60_0
                 try clear hcz60_1
                 try clear hfz34_0
                 try clear hfz34_1
                 try clear hfz36_0
                 try clear hfz36_1
                 try clear hfz55_0
                 try clear hfz55_1
                 try clear hfz60_0
                 try clear hfz60_1
                 try clear hx28_0
                 try clear hx332_0
                 try clear hx336_0
                 try clear hx337_0
                 try clear hx338_0
                 try clear hx340_0
                 try clear hx342_0
                 try clear hx343_0
                 try clear hx345_0
                 try clear hx46_0
                 try clear p2
                 try clear p28
                 try clear p3
                 try clear p33
                 try clear p332
                 try clear p336
                 try clear p337
                 try clear p338
                 try clear p34
                 try clear p340
                 try clear p342
                 try clear p343
                 try clear p345
                 try clear p4
                 try clear p46
                 try clear p6
                 try clear q2
                 try clear q28
                 try clear q3
                 try clear q33
                 try clear q332
                 try clear q336
                 try clear q337
                 try clear q338
                 try clear q34
                 try clear q340
                 try clear q342
                 try clear q343
                 try clear q345
                 try clear q4
                 try clear q46
                 obtain ⟨x15_5, x348001_5, u348001, rfl, HA, HK5, HO_6, HO_348001, BK327, BK347, HB⟩ := hrel
                 cases gk with
                 | zero => exact absurd HA.out (by simp [spec_EndsSpace.l4])
                 | succ k5 =>
                  have H := HA.out
                  clear HA
                  simp only [spec_EndsSpace.l4] at H
                  by_cases c61 : x15_5 ≤ (wrap64 ((ji57) - 1))
                  ·rw [if_pos c61] at H
                   have c61b0 : decide (x15_5 ≤ (wrap64 ((ji57) - 1))) = true := decide_eq_true c61
                   clear c61
                   have H' := Aside0.mk H
                   clear H
                   go_wp2
                   go_loopg [17, 125] k5 (fun kq v17 v125 w' => ∃ (x17_6 : Bool) (x125_6 : Int), v17 = .bool x17_6 ∧ v125 = .int .i64 x125_6 ∧ Aside0 (spec_EndsSpace.l5 kq x6_3 (wrap64 ((ji57) - 1)) x15_5 (Go.bits .andNot .i64 (wrap64 ((ji57) - 1)) x15_5) x17_6 (x6_3.length : Int) x125_6 a0 x348001_5 = some (r1, r2, r3)) ∧ Aside0 (kq ≤ k5) ∧ Aside0 (Kd.R (Kd.int .i64) 3 w' w.heap.size (fun k_ => some k_ ≠ (u348001 : Value).ownBlock) (.slice Ao49 x6_3.length co49) x6_3) ∧ Aside0 (Kd.R (Kd.int .i64) 3 w' w.heap.size (fun k_ => some k_ ≠ ((.slice Ao49 x6_3.length co49) : Value).ownBlock) u348001 x348001_5) ∧ Aside0 (w'.heap[gb327]? = some (.cells #[.int .i64 x328000_4, (.slice none 0 0)] 28 (0, 0))) ∧ Aside0 (w'.heap[gb347]? = some (.cells #[.int .i64 a0, u348001] 28 (0, 0))) ∧ Aside0 (Below w.heap.size w w'))
                   case atStart => exact ⟨(true), (0), (by rfl), (by rfl), H', ⟨Nat.le_refl _⟩, ⟨by (with_reducible repeat (apply Kd.R_drew)); exact HO_6.out⟩, ⟨by (with_reducible repeat (apply Kd.R_drew)); exact HO_348001.out⟩, ⟨by (with_reducible repeat (refine blk_drew ?_)); exact BK327.out⟩, ⟨by (with_reducible repeat (refine blk_drew ?_)); exact BK347.out⟩, ⟨by repeat ((with_reducible exact HB.out))⟩⟩
                   case round =>
                    clear H'
                    try clear c1
                    try clear c2
                    try clear p2
                    try clear q2
                    try clear hx2
                    try clear hf2
                    try clear c3
                    try clear p3
                    try clear q3
                    try clear hx3
                    try clear qi3
                    try clear c4
                    try clear p4
                    try clear q4
                    try clear hx4
                    try clear hf4
                    try clear c5
                    try clear c6
                    try clear p6
                    try clear c13
                    try clear c13b0
                    try clear c14
                    try clear c15
                    try clear c16
                    try clear c16b0
                    try clear c16b1
                    try clear c18
                    try clear c19
                    try clear c20
                    try clear c24
                    try clear c25
                    try clear c26
                    try clear p28
                    try clear q28
                    try clear hx28
                    try clear hf28
                    try clear c33
                    try clear p33
                    try clear q33
                    try clear hx33
                    try clear qi33
                    try clear p34
                    try clear q34
                    try clear hx34
                    try clear c37
                    try clear c37b0
                    try clear c39
                    try clear c39b0
                    try clear c40
                    try clear c40b0
                    try clear c41
                    try clear c41b0
                    try clear c43
                    try clear c44
                    try clear c44b0
                    try clear c45
                    try clear c45b0
                    try clear p46
                    try clear q46
                    try clear hx46
                    try clear hf46
                    try clear c50
                    try clear c50b0
                    try clear c51
                    try clear c51b0
                    try clear c52
                    try clear c52b0
                    try clear c54
                    try clear c56
                    try clear c56b0
                    try clear c56b1
                    try clear c59
                    try clear c61
                    try clear c61b0
                    try clear hcz34_0
                    try clear hcz34_1
                    try clear hcz36_0
                    try clear hcz36_1
                    try clear hcz55_0
                    try clear hcz55_1
                    try clear hcz60_0
                    try clear hcz60_1
                    try clear hfz34_0
                    try clear hfz34_1
                    try clear hfz36_0
                    try clear hfz36_1
                    try clear hfz55_0
                    try clear hfz55_1
                    try clear hfz60_0
                    try clear hfz60_1
                    try clear hx28_0
                    try clear hx332_0
                    try clear hx336_0
                    try clear hx337_0
                    try clear hx338_0
                    try clear hx340_0
                    try clear hx342_0
                    try clear hx343_0
                    try clear hx345_0
                    try clear hx46_0
                    try clear p2
                    try clear p28
                    try clear p3
                    try clear p33
                    try clear p332
                    try clear p336
                    try clear p337
                    try clear p338
                    try clear p34
                    try clear p340
                    try clear p342
                    try clear p343
                    try clear p345
                    try clear p4
                    try clear p46
                    try clear p6
                    try clear q2
                    try clear q28
                    try clear q3
                    try clear q33
                    try clear q332
                    try clear q336
                    try clear q337
                    try clear q338
                    try clear q34
                    try clear q340
                    try clear q342
                    try clear q343
                    try clear q345
                    try clear q4
                    try clear q46
                    obtain ⟨x17_6, x125_6, rfl, rfl, HA, HK6, HO_6, HO_348001, BK327, BK347, HB⟩ := hrel
                    cases gk with
                    | zero => exact absurd HA.out (by simp [spec_EndsSpace.l5])
                    | succ k6 =>
                     have H := HA.out
                     clear HA
                     simp only [spec_EndsSpace.l5] at H
                     by_cases c62 : x125_6 < (x6_3.length : Int)
                     ·rw [if_pos c62] at H
                      have c62b0 : decide (x125_6 < (x6_3.length : Int)) = true := decide_eq_true c62
                      clear c62
                      have H' := Aside0.mk H
                      clear H
                      go_wp2
                      go_loopg [17, 130] k6 (fun kq v17 v130 w' => ∃ (x17_7 : Bool) (x130_7 : Int), v17 = .bool x17_7 ∧ v130 = .int .i64 x130_7 ∧ Aside0 (spec_EndsSpace.l6 kq x6_3 (wrap64 ((ji57) - 1)) x15_5 (Go.bits .andNot .i64 (wrap64 ((ji57) - 1)) x15_5) x17_7 x125_6 (x6_3.length : Int) x125_6 (x6_3.length : Int) x130_7 a0 x348001_5 = some (r1, r2, r3)) ∧ Aside0 (kq ≤ k6) ∧ Aside0 (Kd.R (Kd.int .i64) 3 w' w.heap.size (fun k_ => some k_ ≠ (u348001 : Value).ownBlock) (.slice Ao49 x6_3.length co49) x6_3) ∧ Aside0 (Kd.R (Kd.int .i64) 3 w' w.heap.size (fun k_ => some k_ ≠ ((.slice Ao49 x6_3.length co49) : Value).ownBlock) u348001 x348001_5) ∧ Aside0 (w'.heap[gb327]? = some (.cells #[.int .i64 x328000_4, (.slice none 0 0)] 28 (0, 0))) ∧ Aside0 (w'.heap[gb347]? = some (.cells #[.int .i64 a0, u348001] 28 (0, 0))) ∧ Aside0 (Below w.heap.size w w'))
                      case atStart => exact ⟨(x17_6), (0), (by rfl), (by rfl), H', ⟨Nat.le_refl _⟩, ⟨by (with_reducible repeat (apply Kd.R_drew)); exact HO_6.out⟩, ⟨by (with_reducible repeat (apply Kd.R_drew)); exact HO_348001.out⟩, ⟨by (with_reducible repeat (refine blk_drew ?_)); exact BK327.out⟩, ⟨by (with_reducible repeat (refine blk_drew ?_)); exact BK347.out⟩, ⟨by repeat ((with_reducible exact HB.out))⟩⟩
                      case round =>
                       clear H'
                       try clear c1
                       try clear c2
                       try clear p2
                       try clear q2
                       try clear hx2
                       try clear hf2
                       try clear c3
                       try clear p3
                       try clear q3
                       try clear hx3
                       try clear qi3
                       try clear c4
                       try clear p4
                       try clear q4
                       try clear hx4
                       try clear hf4
                       try clear c5
                       try clear c6
                       try clear p6
                       try clear c13
                       try clear c13b0
                       try clear c14
                       try clear c15
                       try clear c16
                       try clear c16b0
                       try clear c16b1
                       try clear c18
                       try clear c19
                       try clear c20
                       try clear c24
                       try clear c25
                       try clear c26
                       try clear p28
                       try clear q28
                       try clear hx28
                       try clear hf28
                       try clear c33
                       try clear p33
                       try clear q33
                       try clear hx33
                       try clear qi33
                       try clear p34
                       try clear q34
                       try clear hx34
                       try clear c37
                       try clear c37b0
                       try clear c39
                       try clear c39b0
                       try clear c40
                       try clear c40b0
                       try clear c41
                       try clear c41b0
                       try clear c43
                       try clear c44
                       try clear c44b0
                       try clear c45
                       try clear c45b0
                       try clear p46
                       try clear q46
                       try clear hx46
                       try clear hf46
                       try clear c50
                       try clear c50b0
                       try clear c51
                       try clear c51b0
                       try clear c52
                       try clear c52b0
                       try clear c54
                       try clear c56
                       try clear c56b0
                       try clear c56b1
                       try clear c59
                       try clear c61
                       try clear c61b0
                       try clear c62
                       try clear c62b0
                       try clear hcz34_0
                       try clear hcz34_1
                       try clear hcz36_0
                       try clear hcz36_1
                       try clear hcz55_0
                       try clear hcz55_1
                       try clear hcz60_0
                       try clear hcz60_1
                       try clear hfz34_0
                       try clear hfz34_1
                       try clear hfz36_0
                       try clear hfz36_1
                       try clear hfz55_0
                       try clear hfz55_1
                       try clear hfz60_0
                       try clear hfz60_1
                       try clear hx28_0
                       try clear hx332_0
                       try clear hx336_0
                       try clear hx337_0
                       try clear hx338_0
                       try clear hx340_0
                       try clear hx342_0
                       try clear hx343_0
                       try clear hx345_0
                       try clear hx46_0
                       try clear p2
                       try clear p28
                       try clear p3
                       try clear p33
                       try clear p332
                       try clear p336
                       try clear p337
                       try clear p338
                       try clear p34
                       try clear p340
                       try clear p342
                       try clear p343
                       try clear p345
                       try clear p4
                       try clear p46
                       try clear p6
                       try clear q2
                       try clear q28
                       try clear q3
                       try clear q33
                       try clear q332
                       try clear q336
                       try clear q337
                       try clear q338
                       try clear q34
                       try clear q340
                       try clear q342
                       try clear q343
                       try clear q345
                       try clear q4
                       try clear q46
                       obtain ⟨x17_7, x130_7, rfl, rfl, HA, HK7, HO_6, HO_348001, BK327, BK347, HB⟩ := hrel
                       cases gk with
                       | zero => exact absurd HA.out (by simp [spec_EndsSpace.l6])
                       | succ k7 =>
                        have H := HA.out
                        clear HA
                        simp only [spec_EndsSpace.l6] at H
                        by_cases c63 : x130_7 < (x6_3.length : Int)
                        ·rw [if_pos c63] at H
                         have c63b0 : decide (x130_7 < (x6_3.length : Int)) = true := decide_eq_true c63
                         clear c63
                         have H' := Aside0.mk H
                         clear H
                         go_wp2
                         go_loopg [17, 135] k7 (fun kq v17 v135 w' => ∃ (x17_8 : Bool) (x135_8 : Int), v17 = .bool x17_8 ∧ v135 = .int .i64 x135_8 ∧ Aside0 (spec_EndsSpace.l7 kq x6_3 (wrap64 ((ji57) - 1)) x15_5 (Go.bits .andNot .i64 (wrap64 ((ji57) - 1)) x15_5) x17_8 x125_6 x130_7 (x6_3.length : Int) x125_6 (x6_3.length : Int) x130_7 (x6_3.length : Int) x135_8 a0 x348001_5 = some (r1, r2, r3)) ∧ Aside0 (kq ≤ k7) ∧ Aside0 (Kd.R (Kd.int .i64) 3 w' w.heap.size (fun k_ => some k_ ≠ (u348001 : Value).ownBlock) (.slice Ao49 x6_3.length co49) x6_3) ∧ Aside0 (Kd.R (Kd.int .i64) 3 w' w.heap.size (fun k_ => some k_ ≠ ((.slice Ao49 x6_3.length co49) : Value).ownBlock) u348001 x348001_5) ∧ Aside0 (w'.heap[gb327]? = some (.cells #[.int .i64 x328000_4, (.slice none 0 0)] 28 (0, 0))) ∧ Aside0 (w'.heap[gb347]? = some (.cells #[.int .i64 a0, u348001] 28 (0, 0))) ∧ Aside0 (Below w.heap.size w w'))
                         case atStart => exact ⟨(x17_7), (0), (by rfl), (by rfl), H', ⟨Nat.le_refl _⟩, ⟨by (with_reducible repeat (apply Kd.R_drew)); exact HO_6.out⟩, ⟨by (with_reducible repeat (apply Kd.R_drew)); exact HO_348001.out⟩, ⟨by (with_reducible repeat (refine blk_drew ?_)); exact BK327.out⟩, ⟨by (with_reducible repeat (refine blk_drew ?_)); exact BK347.out⟩, ⟨by repeat ((with_reducible exact HB.out))⟩⟩
                         case round =>
                          clear H'
                          try clear c1
                          try clear c2
                          try clear p2
                          try clear q2
                          try clear hx2
                          try clear hf2
                          try clear c3
                          try clear p3
                          try clear q3
                          try clear hx3
                          try clear qi3
                          try clear c4
                          try clear p4
                          try clear q4
                          try clear hx4
                          try clear hf4
                          try clear c5
                          try clear c6
                          try clear p6
                          try clear c13
                          try clear c13b0
                          try clear c14
                          try clear c15
                          try clear c16
                          try clear c16b0
                          try clear c16b1
                          try clear c18
                          try clear c19
                          try clear c20
                          try clear c24
                          try clear c25
                          try clear c26
                          try clear p28
                          try clear q28
                          try clear hx28
                          try clear hf28
                          try clear c33
                          try clear p33
                          try clear q33
                          try clear hx33
                          try clear qi33
                          try clear p34
                          try clear q34
                          try clear hx34
                          try clear c37
                          try clear c37b0
                          try clear c39
                          try clear c39b0
                          try clear c40
                          try clear c40b0
                          try clear c41
                          try clear c41b0
                          try clear c43
                          try clear c44
                          try clear c44b0
                          try clear c45
                          try clear c45b0
                          try clear p46
                          try clear q46
                          try clear hx46
                          try clear hf46
                          try clear c50
                          try clear c50b0
                          try clear c51
                          try clear c51b0
                          try clear c52
                          try clear c52b0
                          try clear c54
                          try clear c56
                          try clear c56b0
                          try clear c56b1
                          try clear c59
                          try clear c61
                          try clear c61b0
                          try clear c62
                          try clear c62b0
                          try clear c63
                          try clear c63b0
                          try clear hcz34_0
                          try clear hcz34_1
                          try clear hcz36_0
                          try clear hcz36_1
                          try clear hcz55_0
                          try clear hcz55_1
                          try clear hcz60_0
                          try clear hcz60_1
                          try clear hfz34_0
                          try clear hfz34_1
                          try clear hfz36_0
                          try clear hfz36_1
                          try clear hfz55_0
                          try clear hfz55_1
                          try clear hfz60_0
                          try clear hfz60_1
                          try clear hx28_0
                          try clear hx332_0
                          try clear hx336_0
                          try clear hx337_0
                          try clear hx338_0
                          try clear hx340_0
                          try clear hx342_0
                          try clear hx343_0
                          try clear hx345_0
                          try clear hx46_0
                          try clear p2
                          try clear p28
                          try clear p3
                          try clear p33
                          try clear p332
                          try clear p336
                          try clear p337
                          try clear p338
                          try clear p34
                          try clear p340
                          try clear p342
                          try clear p343
                          try clear p345
                          try clear p4
                          try clear p46
                          try clear p6
                          try clear q2
                          try clear q28
                          try clear q3
                          try clear q33
                          try clear q332
                          try clear q336
                          try clear q337
                          try clear q338
                          try clear q34
                          try clear q340
                          try clear q342
                          try clear q343
                          try clear q345
                          try clear q4
                          try clear q46
                          obtain ⟨x17_8, x135_8, rfl, rfl, HA, HK8, HO_6, HO_348001, BK327, BK347, HB⟩ := hrel
                          cases gk with
                          | zero => exact absurd HA.out (by simp [spec_EndsSpace.l7])
                          | succ k8 =>
                           have H := HA.out
                           clear HA
                           simp only [spec_EndsSpace.l7] at H
                           by_cases c64 : x135_8 < (x6_3.length : Int)
                           ·rw [if_pos c64] at H
                            have c64b0 : decide (x135_8 < (x6_3.length : Int)) = true := decide_eq_true c64
                            clear c64
                            replace H := Option.bind_eq_some_iff.mp H
                            obtain ⟨t351, A650, H⟩ := H
                            replace H : (if t351 = true then ((spec_spIn.f (Go.bits .andNot .i64 (wrap64 ((ji57) - 1)) x15_5) x130_7).bind fun t352 => (if t352 = true then (if 0 ≤ x135_8 then (if x135_8 < (x6_3.length : Int) then ((spec_spIn.f (rd x6_3 x135_8) x125_6).bind fun t354 => (if t354 = true then (if 0 ≤ x130_7 then (if x130_7 < (x6_3.length : Int) then ((spec_spIn.f (rd x6_3 x130_7) x135_8).bind fun t356 => (if t356 = true then ((spec_spIn.f (Go.bits .andNot .i64 (wrap64 ((ji57) - 1)) x15_5) x135_8).bind fun t357 => (if t357 = true then (spec_EndsSpace.l7 k8 x6_3 (wrap64 ((ji57) - 1)) x15_5 (Go.bits .andNot .i64 (wrap64 ((ji57) - 1)) x15_5) x17_8 x125_6 x130_7 (x6_3.length : Int) x125_6 (x6_3.length : Int) x130_7 (x6_3.length : Int) (wrap64 (x135_8 + 1)) a0 x348001_5) else (spec_EndsSpace.l7 k8 x6_3 (wrap64 ((ji57) - 1)) x15_5 (Go.bits .andNot .i64 (wrap64 ((ji57) - 1)) x15_5) false x125_6 x130_7 (x6_3.length : Int) x125_6 (x6_3.length : Int) x130_7 (x6_3.length : Int) (wrap64 (x135_8 + 1)) a0 x348001_5))) else (spec_EndsSpace.l7 k8 x6_3 (wrap64 ((ji57) - 1)) x15_5 (Go.bits .andNot .i64 (wrap64 ((ji57) - 1)) x15_5) x17_8 x125_6 x130_7 (x6_3.length : Int) x125_6 (x6_3.length : Int) x130_7 (x6_3.length : Int) (wrap64 (x135_8 + 1)) a0 x348001_5))) else (none)) else (none)) else (spec_EndsSpace.l7 k8 x6_3 (wrap64 ((ji57) - 1)) x15_5 (Go.bits .andNot .i64 (wrap64 ((ji57) - 1)) x15_5) x17_8 x125_6 x130_7 (x6_3.length : Int) x125_6 (x6_3.length : Int) x130_7 (x6_3.length : Int) (wrap64 (x135_8 + 1)) a0 x348001_5))) else (none)) else (none)) else (spec_EndsSpace.l7 k8 x6_3 (wrap64 ((ji57) - 1)) x15_5 (Go.bits .andNot .i64 (wrap64 ((ji57) - 1)) x15_5) x17_8 x125_6 x130_7 (x6_3.length : Int) x125_6 (x6_3.length : Int) x130_7 (x6_3.length : Int) (wrap64 (x135_8 + 1)) a0 x348001_5))) else (spec_EndsSpace.l7 k8 x6_3 (wrap64 ((ji57) - 1)) x15_5 (Go.bits .andNot .i64 (wrap64 ((ji57) - 1)) x15_5) x17_8 x125_6 x130_7 (x6_3.length : Int) x125_6 (x6_3.length : Int) x130_7 (x6_3.length : Int) (wrap64 (x135_8 + 1)) a0 x348001_5)) = some (r1, r2, r3) := H
                            have A65 := Aside0.mk A650
                            clear A650
                            by_cases c66 : t351 = true
                            ·subst c66
                             have H1 : ((spec_spIn.f (Go.bits .andNot .i64 (wrap64 ((ji57) - 1)) x15_5) x130_7).bind fun t352 => (if t352 = true then (if 0 ≤ x135_8 then (if x135_8 < (x6_3.length : Int) then ((spec_spIn.f (rd x6_3 x135_8) x125_6).bind fun t354 => (if t354 = true then (if 0 ≤ x130_7 then (if x130_7 < (x6_3.length : Int) then ((spec_spIn.f (rd x6_3 x130_7) x135_8).bind fun t356 => (if t356 = true then ((spec_spIn.f (Go.bits .andNot .i64 (wrap64 ((ji57) - 1)) x15_5) x135_8).bind fun t357 => (if t357 = true then (spec_EndsSpace.l7 k8 x6_3 (wrap64 ((ji57) - 1)) x15_5 (Go.bits .andNot .i64 (wrap64 ((ji57) - 1)) x15_5) x17_8 x125_6 x130_7 (x6_3.length : Int) x125_6 (x6_3.length : Int) x130_7 (x6_3.length : Int) (wrap64 (x135_8 + 1)) a0 x348001_5) else (spec_EndsSpace.l7 k8 x6_3 (wrap64 ((ji57) - 1)) x15_5 (Go.bits .andNot .i64 (wrap64 ((ji57) - 1)) x15_5) false x125_6 x130_7 (x6_3.length : Int) x125_6 (x6_3.length : Int) x130_7 (x6_3.length : Int) (wrap64 (x135_8 + 1)) a0 x348001_5))) else (spec_EndsSpace.l7 k8 x6_3 (wrap64 ((ji57) - 1)) x15_5 (Go.bits .andNot .i64 (wrap64 ((ji57) - 1)) x15_5) x17_8 x125_6 x130_7 (x6_3.length : Int) x125_6 (x6_3.length : Int) x130_7 (x6_3.length : Int) (wrap64 (x135_8 + 1)) a0 x348001_5))) else (none)) else (none)) else (spec_EndsSpace.l7 k8 x6_3 (wrap64 ((ji57) - 1)) x15_5 (Go.bits .andNot .i64 (wrap64 ((ji57) - 1)) x15_5) x17_8 x125_6 x130_7 (x6_3.length : Int) x125_6 (x6_3.length : Int) x130_7 (x6_3.length : Int) (wrap64 (x135_8 + 1)) a0 x348001_5))) else (none)) else (none)) else (spec_EndsSpace.l7 k8 x6_3 (wrap64 ((ji57) - 1)) x15_5 (Go.bits .andNot .i64 (wrap64 ((ji57) - 1)) x15_5) x17_8 x125_6 x130_7 (x6_3.length : Int) x125_6 (x6_3.length : Int) x130_7 (x6_3.length : Int) (wrap64 (x135_8 + 1)) a0 x348001_5))) = some (r1, r2, r3) := by rw [if_pos rfl] at H; exact H
                             clear H
                             have H := H1
                             clear H1
                             replace H := Option.bind_eq_some_iff.mp H
                             obtain ⟨t352, A670, H⟩ := H
                             replace H : (if t352 = true then (if 0 ≤ x135_8 then (if x135_8 < (x6_3.length : Int) then ((spec_spIn.f (rd x6_3 x135_8) x125_6).bind fun t354 => (if t354 = true then (if 0 ≤ x130_7 then (if x130_7 < (x6_3.length : Int) then ((spec_spIn.f (rd x6_3 x130_7) x135_8).bind fun t356 => (if t356 = true then ((spec_spIn.f (Go.bits .andNot .i64 (wrap64 ((ji57) - 1)) x15_5) x135_8).bind fun t357 => (if t357 = true then (spec_EndsSpace.l7 k8 x6_3 (wrap64 ((ji57) - 1)) x15_5 (Go.bits .andNot .i64 (wrap64 ((ji57) - 1)) x15_5) x17_8 x125_6 x130_7 (x6_3.length : Int) x125_6 (x6_3.length : Int) x130_7 (x6_3.length : Int) (wrap64 (x135_8 + 1)) a0 x348001_5) else (spec_EndsSpace.l7 k8 x6_3 (wrap64 ((ji57) - 1)) x15_5 (Go.bits .andNot .i64 (wrap64 ((ji57) - 1)) x15_5) false x125_6 x130_7 (x6_3.length : Int) x125_6 (x6_3.length : Int) x130_7 (x6_3.length : Int) (wrap64 (x135_8 + 1)) a0 x348001_5))) else (spec_EndsSpace.l7 k8 x6_3 (wrap64 ((ji57) - 1)) x15_5 (Go.bits .andNot .i64 (wrap64 ((ji57) - 1)) x15_5) x17_8 x125_6 x130_7 (x6_3.length : Int) x125_6 (x6_3.length : Int) x130_7 (x6_3.length : Int) (wrap64 (x135_8 + 1)) a0 x348001_5))) else (none)) else (none)) else (spec_EndsSpace.l7 k8 x6_3 (wrap64 ((ji57) - 1)) x15_5 (Go.bits .andNot .i64 (wrap64 ((ji57) - 1)) x15_5) x17_8 x125_6 x130_7 (x6_3.length : Int) x125_6 (x6_3.length : Int) x130_7 (x6_3.length : Int) (wrap64 (x135_8 + 1)) a0 x348001_5))) else (none)) else (none)) else (spec_EndsSpace.l7 k8 x6_3 (wrap64 ((ji57) - 1)) x15_5 (Go.bits .andNot .i64 (wrap64 ((ji57) - 1)) x15_5) x17_8 x125_6 x130_7 (x6_3.length : Int) x125_6 (x6_3.length : Int) x130_7 (x6_3.length : Int) (wrap64 (x135_8 + 1)) a0 x348001_5)) = some (r1, r2, r3) := H
                             have A67 := Aside0.mk A670
                             clear A670
                             by_cases c68 : t352 = true
                             ·subst c68
                              have H1 : (if 0 ≤ x135_8 then (if x135_8 < (x6_3.length : Int) then ((spec_spIn.f (rd x6_3 x135_8) x125_6).bind fun t354 => (if t354 = true then (if 0 ≤ x130_7 then (if x130_7 < (x6_3.length : Int) then ((spec_spIn.f (rd x6_3 x130_7) x135_8).bind fun t356 => (if t356 = true then ((spec_spIn.f (Go.bits .andNot .i64 (wrap64 ((ji57) - 1)) x15_5) x135_8).bind fun t357 => (if t357 = true then (spec_EndsSpace.l7 k8 x6_3 (wrap64 ((ji57) - 1)) x15_5 (Go.bits .andNot .i64 (wrap64 ((ji57) - 1)) x15_5) x17_8 x125_6 x130_7 (x6_3.length : Int) x125_6 (x6_3.length : Int) x130_7 (x6_3.length : Int) (wrap64 (x135_8 + 1)) a0 x348001_5) else (spec_EndsSpace.l7 k8 x6_3 (wrap64 ((ji57) - 1)) x15_5 (Go.bits .andNot .i64 (wrap64 ((ji57) - 1)) x15_5) false x125_6 x130_7 (x6_3.length : Int) x125_6 (x6_3.length : Int) x130_7 (x6_3.length : Int) (wrap64 (x135_8 + 1)) a0 x348001_5))) else (spec_EndsSpace.l7 k8 x6_3 (wrap64 ((ji57) - 1)) x15_5 (Go.bits .andNot .i64 (wrap64 ((ji57) - 1)) x15_5) x17_8 x125_6 x130_7 (x6_3.length : Int) x125_6 (x6_3.length : Int) x130_7 (x6_3.length : Int) (wrap64 (x135_8 + 1)) a0 x348001_5))) else (none)) else (none)) else (spec_EndsSpace.l7 k8 x6_3 (wrap64 ((ji57) - 1)) x15_5 (Go.bits .andNot .i64 (wrap64 ((ji57) - 1)) x15_5) x17_8 x125_6 x130_7 (x6_3.length : Int) x125_6 (x6_3.length : Int) x130_7 (x6_3.length : Int) (wrap64 (x135_8 + 1)) a0 x348001_5))) else (none)) else (none)) = some (r1, r2, r3) := by rw [if_pos rfl] at H; exact H
                              clear H
                              have H := H1
                              clear H1
                              by_cases c69 : 0 ≤ x135_8
                              ·rw [if_pos c69] at H
                               have c69b0 : decide (0 ≤ x135_8) = true := decide_eq_true c69
                               clear c69
                               by_cases c70 : x135_8 < (x6_3.length : Int)
                               ·rw [if_pos c70] at H
                                have c70b0 : decide (x135_8 < (x6_3.length : Int)) = true := decide_eq_true c70
                                clear c70
                                replace H := Option.bind_eq_some_iff.mp H
                                obtain ⟨t354, A710, H⟩ := H
                                replace H : (if t354 = true then (if 0 ≤ x130_7 then (if x130_7 < (x6_3.length : Int) then ((spec_spIn.f (rd x6_3 x130_7) x135_8).bind fun t356 => (if t356 = true then ((spec_spIn.f (Go.bits .andNot .i64 (wrap64 ((ji57) - 1)) x15_5) x135_8).bind fun t357 => (if t357 = true then (spec_EndsSpace.l7 k8 x6_3 (wrap64 ((ji57) - 1)) x15_5 (Go.bits .andNot .i64 (wrap64 ((ji57) - 1)) x15_5) x17_8 x125_6 x130_7 (x6_3.length : Int) x125_6 (x6_3.length : Int) x130_7 (x6_3.length : Int) (wrap64 (x135_8 + 1)) a0 x348001_5) else (spec_EndsSpace.l7 k8 x6_3 (wrap64 ((ji57) - 1)) x15_5 (Go.bits .andNot .i64 (wrap64 ((ji57) - 1)) x15_5) false x125_6 x130_7 (x6_3.length : Int) x125_6 (x6_3.length : Int) x130_7 (x6_3.length : Int) (wrap64 (x135_8 + 1)) a0 x348001_5))) else (spec_EndsSpace.l7 k8 x6_3 (wrap64 ((ji57) - 1)) x15_5 (Go.bits .andNot .i64 (wrap64 ((ji57) - 1)) x15_5) x17_8 x125_6 x130_7 (x6_3.length : Int) x125_6 (x6_3.length : Int) x130_7 (x6_3.length : Int) (wrap64 (x135_8 + 1)) a0 x348001_5))) else (none)) else (none)) else (spec_EndsSpace.l7 k8 x6_3 (wrap64 ((ji57) - 1)) x15_5 (Go.bits .andNot .i64 (wrap64 ((ji57) - 1)) x15_5) x17_8 x125_6 x130_7 (x6_3.length : Int) x125_6 (x6_3.length : Int) x130_7 (x6_3.length : Int) (wrap64 (x135_8 + 1)) a0 x348001_5)) = some (r1, r2, r3) := H
                                have A71 := Aside0.mk A710
                                clear A710
                                by_cases c72 : t354 = true
                                ·subst c72
                                 have H1 : (if 0 ≤ x130_7 then (if x130_7 < (x6_3.length : Int) then ((spec_spIn.f (rd x6_3 x130_7) x135_8).bind fun t356 => (if t356 = true then ((spec_spIn.f (Go.bits .andNot .i64 (wrap64 ((ji57) - 1)) x15_5) x135_8).bind fun t357 => (if t357 = true then (spec_EndsSpace.l7 k8 x6_3 (wrap64 ((ji57) - 1)) x15_5 (Go.bits .andNot .i64 (wrap64 ((ji57) - 1)) x15_5) x17_8 x125_6 x130_7 (x6_3.length : Int) x125_6 (x6_3.length : Int) x130_7 (x6_3.length : Int) (wrap64 (x135_8 + 1)) a0 x348001_5) else (spec_EndsSpace.l7 k8 x6_3 (wrap64 ((ji57) - 1)) x15_5 (Go.bits .andNot .i64 (wrap64 ((ji57) - 1)) x15_5) false x125_6 x130_7 (x6_3.length : Int) x125_6 (x6_3.length : Int) x130_7 (x6_3.length : Int) (wrap64 (x135_8 + 1)) a0 x348001_5))) else (spec_EndsSpace.l7 k8 x6_3 (wrap64 ((ji57) - 1)) x15_5 (Go.bits .andNot .i64 (wrap64 ((ji57) - 1)) x15_5) x17_8 x125_6 x130_7 (x6_3.length : Int) x125_6 (x6_3.length : Int) x130_7 (x6_3.length : Int) (wrap64 (x135_8 + 1)) a0 x348001_5))) else (none)) else (none)) = some (r1, r2, r3) := by rw [if_pos rfl] at H; exact H
                                 clear H
                                 have H := H1
                                 clear H1
                                 by_cases c73 : 0 ≤ x130_7
                                 ·rw [if_pos c73] at H
                                  have c73b0 : decide (0 ≤ x130_7) = true := decide_eq_true c73
                                  clear c73
                                  by_cases c74 : x130_7 < (x6_3.length : Int)
                                  ·rw [if_pos c74] at H
                                   have c74b0 : decide (x130_7 < (x6_3.length : Int)) = true := decide_eq_true c74
                                   clear c74
                                   replace H := Option.bind_eq_some_iff.mp H
                                   obtain ⟨t356, A750, H⟩ := H
                                   replace H : (if t356 = true then ((spec_spIn.f (Go.bits .andNot .i64 (wrap64 ((ji57) - 1)) x15_5) x135_8).bind fun t357 => (if t357 = true then (spec_EndsSpace.l7 k8 x6_3 (wrap64 ((ji57) - 1)) x15_5 (Go.bits .andNot .i64 (wrap64 ((ji57) - 1)) x15_5) x17_8 x125_6 x130_7 (x6_3.length : Int) x125_6 (x6_3.length : Int) x130_7 (x6_3.length : Int) (wrap64 (x135_8 + 1)) a0 x348001_5) else (spec_EndsSpace.l7 k8 x6_3 (wrap64 ((ji57) - 1)) x15_5 (Go.bits .andNot .i64 (wrap64 ((ji57) - 1)) x15_5) false x125_6 x130_7 (x6_3.length : Int) x125_6 (x6_3.length : Int) x130_7 (x6_3.length : Int) (wrap64 (x135_8 + 1)) a0 x348001_5))) else (spec_EndsSpace.l7 k8 x6_3 (wrap64 ((ji57) - 1)) x15_5 (Go.bits .andNot .i64 (wrap64 ((ji57) - 1)) x15_5) x17_8 x125_6 x130_7 (x6_3.length : Int) x125_6 (x6_3.length : Int) x130_7 (x6_3.length : Int) (wrap64 (x135_8 + 1)) a0 x348001_5)) = some (r1, r2, r3) := H
                                   have A75 := Aside0.mk A750
                                   clear A750
                                   by_cases c76 : t356 = true
                                   ·subst c76
                                    have H1 : ((spec_spIn.f (Go.bits .andNot .i64 (wrap64 ((ji57) - 1)) x15_5) x135_8).bind fun t357 => (if t357 = true then (spec_EndsSpace.l7 k8 x6_3 (wrap64 ((ji57) - 1)) x15_5 (Go.bits .andNot .i64 (wrap64 ((ji57) - 1)) x15_5) x17_8 x125_6 x130_7 (x6_3.length : Int) x125_6 (x6_3.length : Int) x130_7 (x6_3.length : Int) (wrap64 (x135_8 + 1)) a0 x348001_5) else (spec_EndsSpace.l7 k8 x6_3 (wrap64 ((ji57) - 1)) x15_5 (Go.bits .andNot .i64 (wrap64 ((ji57) - 1)) x15_5) false x125_6 x130_7 (x6_3.length : Int) x125_6 (x6_3.length : Int) x130_7 (x6_3.length : Int) (wrap64 (x135_8 + 1)) a0 x348001_5))) = some (r1, r2, r3) := by rw [if_pos rfl] at H; exact H
                                    clear H
                                    have H := H1
                                    clear H1
                                    replace H := Option.bind_eq_some_iff.mp H
                                    obtain ⟨t357, A770, H⟩ := H
                                    replace H : (if t357 = true then (spec_EndsSpace.l7 k8 x6_3 (wrap64 ((ji57) - 1)) x15_5 (Go.bits .andNot .i64 (wrap64 ((ji57) - 1)) x15_5) x17_8 x125_6 x130_7 (x6_3.length : Int) x125_6 (x6_3.length : Int) x130_7 (x6_3.length : Int) (wrap64 (x135_8 + 1)) a0 x348001_5) else (spec_EndsSpace.l7 k8 x6_3 (wrap64 ((ji57) - 1)) x15_5 (Go.bits .andNot .i64 (wrap64 ((ji57) - 1)) x15_5) false x125_6 x130_7 (x6_3.length : Int) x125_6 (x6_3.length : Int) x130_7 (x6_3.length : Int) (wrap64 (x135_8 + 1)) a0 x348001_5)) = some (r1, r2, r3) := H
                                    have A77 := Aside0.mk A770
                                    clear A770
                                    by_cases c78 : t357 = true
                                    ·subst c78
                                     have H1 : (spec_EndsSpace.l7 k8 x6_3 (wrap64 ((ji57) - 1)) x15_5 (Go.bits .andNot .i64 (wrap64 ((ji57) - 1)) x15_5) x17_8 x125_6 x130_7 (x6_3.length : Int) x125_6 (x6_3.length : Int) x130_7 (x6_3.length : Int) (wrap64 (x135_8 + 1)) a0 x348001_5) = some (r1, r2, r3) := by rw [if_pos rfl] at H; exact H
                                     clear H
                                     have H := H1
                                     clear H1
                                     have H' := Aside0.mk H
                                     clear H
                                     go_wp2_with (first | ((with_reducible refine gate_callee (f := 41) rfl ?_); refine goesL_ (some 140) rfl rfl Try.func41 (by kernel_rfl) rfl #[.int .i64 (Go.bits .andNot .i64 (wrap64 ((ji57) - 1)) x15_5), .int .i64 x125_6] rfl (by (try simp only [List.map_toArray, List.map_cons, List.map_nil]); rfl) ?_; (with_reducible refine (spec_spIn.calls (Go.bits .andNot .i64 (wrap64 ((ji57) - 1)) x15_5) x125_6 true _ A65.out).mono ?_); rintro e w' ⟨rfl, ⟨nd, rfl⟩⟩; refine ⟨_, rfl, ?_⟩) | (go_at_call 41; refine calls_of_args (args' := #[.int .i64 (Go.bits .andNot .i64 (wrap64 ((ji57) - 1)) x15_5), .int .i64 x130_7]) (by (simp only [i64_w, i32_w]; done)) ?_; (with_reducible refine (spec_spIn.calls (Go.bits .andNot .i64 (wrap64 ((ji57) - 1)) x15_5) x130_7 true _ A67.out).mono ?_); rintro e w' ⟨rfl, ⟨nd, rfl⟩⟩; have p353 : 0 ≤ (x135_8 : Int) := of_decide_eq_true (by (with_reducible assumption)); have q353 : x135_8 < (x6_3.length : Int) := of_decide_eq_true (by (with_reducible assumption)); obtain ⟨ad353, e353, hx353_0⟩ := Kd.at_int (Kd.R_reads' HO_6.out).2.2 x135_8 p353 q353; cases e353; replace p353 := eq_true p353; replace q353 := eq_true q353) | (go_at_call 41; (with_reducible refine (spec_spIn.calls (rd x6_3 x135_8) x125_6 true _ A71.out).mono ?_); rintro e w' ⟨rfl, ⟨nd, rfl⟩⟩; have p355 : 0 ≤ (x130_7 : Int) := of_decide_eq_true (by (with_reducible assumption)); have q355 : x130_7 < (x6_3.length : Int) := of_decide_eq_true (by (with_reducible assumption)); obtain ⟨ad355, e355, hx355_0⟩ := Kd.at_int (Kd.R_reads' HO_6.out).2.2 x130_7 p355 q355; obtain rfl : ad353 = ad355 := (by injection e355); replace p355 := eq_true p355; replace q355 := eq_true q355) | (go_at_call 41; (with_reducible refine (spec_spIn.calls (rd x6_3 x130_7) x135_8 true _ A75.out).mono ?_); rintro e w' ⟨rfl, ⟨nd, rfl⟩⟩) | (go_at_call 41; refine calls_of_args (args' := #[.int .i64 (Go.bits .andNot .i64 (wrap64 ((ji57) - 1)) x15_5), .int .i64 x135_8]) (by (simp only [i64_w, i32_w]; done)) ?_; (with_reducible refine (spec_spIn.calls (Go.bits .andNot .i64 (wrap64 ((ji57) - 1)) x15_5) x135_8 true _ A77.out).mono ?_); rintro e w' ⟨rfl, ⟨nd, rfl⟩⟩))
                                     go_roundg k8
                                     case measure => have := HJ2.out; have := HK2.out; have := HK3.out; have := HK4.out; have := HK5.out; have := HK6.out; have := HK7.out; have := HK8.out; omega
                                     case rel => exact ⟨(x17_8), (wrap64 (x135_8 + 1)), (by rfl), (by rfl), H', ⟨by have := HJ2.out; have := HK2.out; have := HK3.out; have := HK4.out; have := HK5.out; have := HK6.out; have := HK7.out; have := HK8.out; omega⟩, ⟨by (with_reducible repeat (apply Kd.R_drewN)); exact HO_6.out⟩, ⟨by (with_reducible repeat (apply Kd.R_drewN)); exact HO_348001.out⟩, ⟨by (with_reducible repeat (refine blk_drewN ?_ _)); exact BK327.out⟩, ⟨by (with_reducible repeat (refine blk_drewN ?_ _)); exact BK347.out⟩, ⟨by repeat ((with_reducible first | exact HB.out | apply pw_below_drewN))⟩⟩
                                    ·replace c78 := Bool.eq_false_iff.mpr c78
                                     subst c78
                                     have H1 : (spec_EndsSpace.l7 k8 x6_3 (wrap64 ((ji57) - 1)) x15_5 (Go.bits .andNot .i64 (wrap64 ((ji57) - 1)) x15_5) false x125_6 x130_7 (x6_3.length : Int) x125_6 (x6_3.length : Int) x130_7 (x6_3.length : Int) (wrap64 (x135_8 + 1)) a0 x348001_5) = some (r1, r2, r3) := by rw [if_neg (show ¬ (false = true) by decide)] at H; exact H
                                     clear H
                                     have H := H1
                                     clear H1
                                     have H' := Aside0.mk H
                                     clear H
                                     go_wp2_with (first | ((with_reducible refine gate_callee (f := 41) rfl ?_); refine goesL_ (some 140) rfl rfl Try.func41 (by kernel_rfl) rfl #[.int .i64 (Go.bits .andNot .i64 (wrap64 ((ji57) - 1)) x15_5), .int .i64 x125_6] rfl (by (try simp only [List.map_toArray, List.map_cons, List.map_nil]); rfl) ?_; (with_reducible refine (spec_spIn.calls (Go.bits .andNot .i64 (wrap64 ((ji57) - 1)) x15_5) x125_6 true _ A65.out).mono ?_); rintro e w' ⟨rfl, ⟨nd, rfl⟩⟩; refine ⟨_, rfl, ?_⟩) | (go_at_call 41; refine calls_of_args (args' := #[.int .i64 (Go.bits .andNot .i64 (wrap64 ((ji57) - 1)) x15_5), .int .i64 x130_7]) (by (simp only [i64_w, i32_w]; done)) ?_; (with_reducible refine (spec_spIn.calls (Go.bits .andNot .i64 (wrap64 ((ji57) - 1)) x15_5) x130_7 true _ A67.out).mono ?_); rintro e w' ⟨rfl, ⟨nd, rfl⟩⟩; have p353 : 0 ≤ (x135_8 : Int) := of_decide_eq_true (by (with_reducible assumption)); have q353 : x135_8 < (x6_3.length : Int) := of_decide_eq_true (by (with_reducible assumption)); obtain ⟨ad353, e353, hx353_0⟩ := Kd.at_int (Kd.R_reads' HO_6.out).2.2 x135_8 p353 q353; cases e353; replace p353 := eq_true p353; replace q353 := eq_true q353) | (go_at_call 41; (with_reducible refine (spec_spIn.calls (rd x6_3 x135_8) x125_6 true _ A71.out).mono ?_); rintro e w' ⟨rfl, ⟨nd, rfl⟩⟩; have p355 : 0 ≤ (x130_7 : Int) := of_decide_eq_true (by (with_reducible assumption)); have q355 : x130_7 < (x6_3.length : Int) := of_decide_eq_true (by (with_reducible assumption)); obtain ⟨ad355, e355, hx355_0⟩ := Kd.at_int (Kd.R_reads' HO_6.out).2.2 x130_7 p355 q355; obtain rfl : ad353 = ad355 := (by injection e355); replace p355 := eq_true p355; replace q355 := eq_true q355) | (go_at_call 41; (with_reducible refine (spec_spIn.calls (rd x6_3 x130_7) x135_8 true _ A75.out).mono ?_); rintro e w' ⟨rfl, ⟨nd, rfl⟩⟩) | (go_at_call 41; refine calls_of_args (args' := #[.int .i64 (Go.bits .andNot .i64 (wrap64 ((ji57) - 1)) x15_5), .int .i64 x135_8]) (by (simp only [i64_w, i32_w]; done)) ?_; (with_reducible refine (spec_spIn.calls (Go.bits .andNot .i64 (wrap64 ((ji57) - 1)) x15_5) x135_8 false _ A77.out).mono ?_); rintro e w' ⟨rfl, ⟨nd, rfl⟩⟩))
                                     go_roundg k8
                                     case measure => have := HJ2.out; have := HK2.out; have := HK3.out; have := HK4.out; have := HK5.out; have := HK6.out; have := HK7.out; have := HK8.out; omega
                                     case rel => exact ⟨(false), (wrap64 (x135_8 + 1)), (by rfl), (by rfl), H', ⟨by have := HJ2.out; have := HK2.out; have := HK3.out; have := HK4.out; have := HK5.out; have := HK6.out; have := HK7.out; have := HK8.out; omega⟩, ⟨by (with_reducible repeat (apply Kd.R_drewN)); exact HO_6.out⟩, ⟨by (with_reducible repeat (apply Kd.R_drewN)); exact HO_348001.out⟩, ⟨by (with_reducible repeat (refine blk_drewN ?_ _)); exact BK327.out⟩, ⟨by (with_reducible repeat (refine blk_drewN ?_ _)); exact BK347.out⟩, ⟨by repeat ((with_reducible first | exact HB.out | apply pw_below_drewN))⟩⟩
                                   ·replace c76 := Bool.eq_false_iff.mpr c76
                                    subst c76
                                    have H1 : (spec_EndsSpace.l7 k8 x6_3 (wrap64 ((ji57) - 1)) x15_5 (Go.bits .andNot .i64 (wrap64 ((ji57) - 1)) x15_5) x17_8 x125_6 x130_7 (x6_3.length : Int) x125_6 (x6_3.length : Int) x130_7 (x6_3.length : Int) (wrap64 (x135_8 + 1)) a0 x348001_5) = some (r1, r2, r3) := by rw [if_neg (show ¬ (false = true) by decide)] at H; exact H
                                    clear H
                                    have H := H1
                                    clear H1
                                    have H' := Aside0.mk H
                                    clear H
                                    go_wp2_with (first | ((with_reducible refine gate_callee (f := 41) rfl ?_); refine goesL_ (some 140) rfl rfl Try.func41 (by kernel_rfl) rfl #[.int .i64 (Go.bits .andNot .i64 (wrap64 ((ji57) - 1)) x15_5), .int .i64 x125_6] rfl (by (try simp only [List.map_toArray, List.map_cons, List.map_nil]); rfl) ?_; (with_reducible refine (spec_spIn.calls (Go.bits .andNot .i64 (wrap64 ((ji57) - 1)) x15_5) x125_6 true _ A65.out).mono ?_); rintro e w' ⟨rfl, ⟨nd, rfl⟩⟩; refine ⟨_, rfl, ?_⟩) | (go_at_call 41; refine calls_of_args (args' := #[.int .i64 (Go.bits .andNot .i64 (wrap64 ((ji57) - 1)) x15_5), .int .i64 x130_7]) (by (simp only [i64_w, i32_w]; done)) ?_; (with_reducible refine (spec_spIn.calls (Go.bits .andNot .i64 (wrap64 ((ji57) - 1)) x15_5) x130_7 true _ A67.out).mono ?_); rintro e w' ⟨rfl, ⟨nd, rfl⟩⟩; have p353 : 0 ≤ (x135_8 : Int) := of_decide_eq_true (by (with_reducible assumption)); have q353 : x135_8 < (x6_3.length : Int) := of_decide_eq_true (by (with_reducible assumption)); obtain ⟨ad353, e353, hx353_0⟩ := Kd.at_int (Kd.R_reads' HO_6.out).2.2 x135_8 p353 q353; cases e353; replace p353 := eq_true p353; replace q353 := eq_true q353) | (go_at_call 41; (with_reducible refine (spec_spIn.calls (rd x6_3 x135_8) x125_6 true _ A71.out).mono ?_); rintro e w' ⟨rfl, ⟨nd, rfl⟩⟩; have p355 : 0 ≤ (x130_7 : Int) := of_decide_eq_true (by (with_reducible assumption)); have q355 : x130_7 < (x6_3.length : Int) := of_decide_eq_true (by (with_reducible assumption)); obtain ⟨ad355, e355, hx355_0⟩ := Kd.at_int (Kd.R_reads' HO_6.out).2.2 x130_7 p355 q355; obtain rfl : ad353 = ad355 := (by injection e355); replace p355 := eq_true p355; replace q355 := eq_true q355) | (go_at_call 41; (with_reducible refine (spec_spIn.calls (rd x6_3 x130_7) x135_8 false _ A75.out).mono ?_); rintro e w' ⟨rfl, ⟨nd, rfl⟩⟩))
                                    go_roundg k8
                                    case measure => have := HJ2.out; have := HK2.out; have := HK3.out; have := HK4.out; have := HK5.out; have := HK6.out; have := HK7.out; have := HK8.out; omega
                                    case rel => exact ⟨(x17_8), (wrap64 (x135_8 + 1)), (by rfl), (by rfl), H', ⟨by have := HJ2.out; have := HK2.out; have := HK3.out; have := HK4.out; have := HK5.out; have := HK6.out; have := HK7.out; have := HK8.out; omega⟩, ⟨by (with_reducible repeat (apply Kd.R_drewN)); exact HO_6.out⟩, ⟨by (with_reducible repeat (apply Kd.R_drewN)); exact HO_348001.out⟩, ⟨by (with_reducible repeat (refine blk_drewN ?_ _)); exact BK327.out⟩, ⟨by (with_reducible repeat (refine blk_drewN ?_ _)); exact BK347.out⟩, ⟨by repeat ((with_reducible first | exact HB.out | apply pw_below_drewN))⟩⟩
                                  ·rw [if_neg c74] at H
                                   exact absurd H (by simp)
                                 ·rw [if_neg c73] at H
                                  exact absurd H (by simp)
                                ·replace c72 := Bool.eq_false_iff.mpr c72
                                 subst c72
                                 have H1 : (spec_EndsSpace.l7 k8 x6_3 (wrap64 ((ji57) - 1)) x15_5 (Go.bits .andNot .i64 (wrap64 ((ji57) - 1)) x15_5) x17_8 x125_6 x130_7 (x6_3.length : Int) x125_6 (x6_3.length : Int) x130_7 (x6_3.length : Int) (wrap64 (x135_8 + 1)) a0 x348001_5) = some (r1, r2, r3) := by rw [if_neg (show ¬ (false = true) by decide)] at H; exact H
                                 clear H
                                 have H := H1
                                 clear H1
                                 have H' := Aside0.mk H
                                 clear H
                                 go_wp2_with (first | ((with_reducible refine gate_callee (f := 41) rfl ?_); refine goesL_ (some 140) rfl rfl Try.func41 (by kernel_rfl) rfl #[.int .i64 (Go.bits .andNot .i64 (wrap64 ((ji57) - 1)) x15_5), .int .i64 x125_6] rfl (by (try simp only [List.map_toArray, List.map_cons, List.map_nil]); rfl) ?_; (with_reducible refine (spec_spIn.calls (Go.bits .andNot .i64 (wrap64 ((ji57) - 1)) x15_5) x125_6 true _ A65.out).mono ?_); rintro e w' ⟨rfl, ⟨nd, rfl⟩⟩; refine ⟨_, rfl, ?_⟩) | (go_at_call 41; refine calls_of_args (args' := #[.int .i64 (Go.bits .andNot .i64 (wrap64 ((ji57) - 1)) x15_5), .int .i64 x130_7]) (by (simp only [i64_w, i32_w]; done)) ?_; (with_reducible refine (spec_spIn.calls (Go.bits .andNot .i64 (wrap64 ((ji57) - 1)) x15_5) x130_7 true _ A67.out).mono ?_); rintro e w' ⟨rfl, ⟨nd, rfl⟩⟩; have p353 : 0 ≤ (x135_8 : Int) := of_decide_eq_true (by (with_reducible assumption)); have q353 : x135_8 < (x6_3.length : Int) := of_decide_eq_true (by (with_reducible assumption)); obtain ⟨ad353, e353, hx353_0⟩ := Kd.at_int (Kd.R_reads' HO_6.out).2.2 x135_8 p353 q353; cases e353; replace p353 := eq_true p353; replace q353 := eq_true q353) | (go_at_call 41; (with_reducible refine (spec_spIn.calls (rd x6_3 x135_8) x125_6 false _ A71.out).mono ?_); rintro e w' ⟨rfl, ⟨nd, rfl⟩⟩))
                                 go_roundg k8
                                 case measure => have := HJ2.out; have := HK2.out; have := HK3.out; have := HK4.out; have := HK5.out; have := HK6.out; have := HK7.out; have := HK8.out; omega
                                 case rel => exact ⟨(x17_8), (wrap64 (x135_8 + 1)), (by rfl), (by rfl), H', ⟨by have := HJ2.out; have := HK2.out; have := HK3.out; have := HK4.out; have := HK5.out; have := HK6.out; have := HK7.out; have := HK8.out; omega⟩, ⟨by (with_reducible repeat (apply Kd.R_drewN)); exact HO_6.out⟩, ⟨by (with_reducible repeat (apply Kd.R_drewN)); exact HO_348001.out⟩, ⟨by (with_reducible repeat (refine blk_drewN ?_ _)); exact BK327.out⟩, ⟨by (with_reducible repeat (refine blk_drewN ?_ _)); exact BK347.out⟩, ⟨by repeat ((with_reducible first | exact HB.out | apply pw_below_drewN))⟩⟩
                               ·rw [if_neg c70] at H
                                exact absurd H (by simp)
                              ·rw [if_neg c69] at H
                               exact absurd H (by simp)
                             ·replace c68 := Bool.eq_false_iff.mpr c68
                              subst c68
                              have H1 : (spec_EndsSpace.l7 k8 x6_3 (wrap64 ((ji57) - 1)) x15_5 (Go.bits .andNot .i64 (wrap64 ((ji57) - 1)) x15_5) x17_8 x125_6 x130_7 (x6_3.length : Int) x125_6 (x6_3.length : Int) x130_7 (x6_3.length : Int) (wrap64 (x135_8 + 1)) a0 x348001_5) = some (r1, r2, r3) := by rw [if_neg (show ¬ (false = true) by decide)] at H; exact H
                              clear H
                              have H := H1
                              clear H1
                              have H' := Aside0.mk H
                              clear H
                              go_wp2_with (first | ((with_reducible refine gate_callee (f := 41) rfl ?_); refine goesL_ (some 140) rfl rfl Try.func41 (by kernel_rfl) rfl #[.int .i64 (Go.bits .andNot .i64 (wrap64 ((ji57) - 1)) x15_5), .int .i64 x125_6] rfl (by (try simp only [List.map_toArray, List.map_cons, List.map_nil]); rfl) ?_; (with_reducible refine (spec_spIn.calls (Go.bits .andNot .i64 (wrap64 ((ji57) - 1)) x15_5) x125_6 true _ A65.out).mono ?_); rintro e w' ⟨rfl, ⟨nd, rfl⟩⟩; refine ⟨_, rfl, ?_⟩) | (go_at_call 41; refine calls_of_args (args' := #[.int .i64 (Go.bits .andNot .i64 (wrap64 ((ji57) - 1)) x15_5), .int .i64 x130_7]) (by (simp only [i64_w, i32_w]; done)) ?_; (with_reducible refine (spec_spIn.calls (Go.bits .andNot .i64 (wrap64 ((ji57) - 1)) x15_5) x130_7 false _ A67.out).mono ?_); rintro e w' ⟨rfl, ⟨nd, rfl⟩⟩))
                              go_roundg k8
                              case measure => have := HJ2.out; have := HK2.out; have := HK3.out; have := HK4.out; have := HK5.out; have := HK6.out; have := HK7.out; have := HK8.out; omega
                              case rel => exact ⟨(x17_8), (wrap64 (x135_8 + 1)), (by rfl), (by rfl), H', ⟨by have := HJ2.out; have := HK2.out; have := HK3.out; have := HK4.out; have := HK5.out; have := HK6.out; have := HK7.out; have := HK8.out; omega⟩, ⟨by (with_reducible repeat (apply Kd.R_drewN)); exact HO_6.out⟩, ⟨by (with_reducible repeat (apply Kd.R_drewN)); exact HO_348001.out⟩, ⟨by (with_reducible repeat (refine blk_drewN ?_ _)); exact BK327.out⟩, ⟨by (with_reducible repeat (refine blk_drewN ?_ _)); exact BK347.out⟩, ⟨by repeat ((with_reducible first | exact HB.out | apply pw_below_drewN))⟩⟩
                            ·replace c66 := Bool.eq_false_iff.mpr c66
                             subst c66
                             have H1 : (spec_EndsSpace.l7 k8 x6_3 (wrap64 ((ji57) - 1)) x15_5 (Go.bits .andNot .i64 (wrap64 ((ji57) - 1)) x15_5) x17_8 x125_6 x130_7 (x6_3.length : Int) x125_6 (x6_3.length : Int) x130_7 (x6_3.length : Int) (wrap64 (x135_8 + 1)) a0 x348001_5) = some (r1, r2, r3) := by rw [if_neg (show ¬ (false = true) by decide)] at H; exact H
                             clear H
                             have H := H1
                             clear H1
                             have H' := Aside0.mk H
                             clear H
                             go_wp2_with (((with_reducible refine gate_callee (f := 41) rfl ?_); refine goesL_ (some 140) rfl rfl Try.func41 (by kernel_rfl) rfl #[.int .i64 (Go.bits .andNot .i64 (wrap64 ((ji57) - 1)) x15_5), .int .i64 x125_6] rfl (by (try simp only [List.map_toArray, List.map_cons, List.map_nil]); rfl) ?_; (with_reducible refine (spec_spIn.calls (Go.bits .andNot .i64 (wrap64 ((ji57) - 1)) x15_5) x125_6 false _ A65.out).mono ?_); rintro e w' ⟨rfl, ⟨nd, rfl⟩⟩; refine ⟨_, rfl, ?_⟩))
                             go_roundg k8
                             case measure => have := HJ2.out; have := HK2.out; have := HK3.out; have := HK4.out; have := HK5.out; have := HK6.out; have := HK7.out; have := HK8.out; omega
                             case rel => exact ⟨(x17_8), (wrap64 (x135_8 + 1)), (by rfl), (by rfl), H', ⟨by have := HJ2.out; have := HK2.out; have := HK3.out; have := HK4.out; have := HK5.out; have := HK6.out; have := HK7.out; have := HK8.out; omega⟩, ⟨by (with_reducible repeat (apply Kd.R_drewN)); exact HO_6.out⟩, ⟨by (with_reducible repeat (apply Kd.R_drewN)); exact HO_348001.out⟩, ⟨by (with_reducible repeat (refine blk_drewN ?_ _)); exact BK327.out⟩, ⟨by (with_reducible repeat (refine blk_drewN ?_ _)); exact BK347.out⟩, ⟨by repeat ((with_reducible first | exact HB.out | apply pw_below_drewN))⟩⟩
                           ·rw [if_neg c64] at H
                            have c64b0 : decide (x135_8 < (x6_3.length : Int)) = false := decide_eq_false c64
                            clear c64
                            have H' := Aside0.mk H
                            clear H
                            go_wp2
                            go_roundg k8
                            case measure => have := HJ2.out; have := HK2.out; have := HK3.out; have := HK4.out; have := HK5.out; have := HK6.out; have := HK7.out; have := HK8.out; omega
                            case rel => exact ⟨(x17_8), (wrap64 (x130_7 + 1)), (by rfl), (by rfl), H', ⟨by have := HJ2.out; have := HK2.out; have := HK3.out; have := HK4.out; have := HK5.out; have := HK6.out; have := HK7.out; have := HK8.out; omega⟩, ⟨by (with_reducible repeat (apply Kd.R_drew)); exact HO_6.out⟩, ⟨by (with_reducible repeat (apply Kd.R_drew)); exact HO_348001.out⟩, ⟨by (with_reducible repeat (refine blk_drew ?_)); exact BK327.out⟩, ⟨by (with_reducible repeat (refine blk_drew ?_)); exact BK347.out⟩, ⟨by repeat ((with_reducible exact HB.out))⟩⟩
                        ·rw [if_neg c63] at H
                         have c63b0 : decide (x130_7 < (x6_3.length : Int)) = false := decide_eq_false c63
                         clear c63
                         have H' := Aside0.mk H
                         clear H
                         go_wp2
                         go_roundg k7
                         case measure => have := HJ2.out; have := HK2.out; have := HK3.out; have := HK4.out; have := HK5.out; have := HK6.out; have := HK7.out; omega
                         case rel => exact ⟨(x17_7), (wrap64 (x125_6 + 1)), (by rfl), (by rfl), H', ⟨by have := HJ2.out; have := HK2.out; have := HK3.out; have := HK4.out; have := HK5.out; have := HK6.out; have := HK7.out; omega⟩, ⟨by (with_reducible repeat (apply Kd.R_drew)); exact HO_6.out⟩, ⟨by (with_reducible repeat (apply Kd.R_drew)); exact HO_348001.out⟩, ⟨by (with_reducible repeat (refine blk_drew ?_)); exact BK327.out⟩, ⟨by (with_reducible repeat (refine blk_drew ?_)); exact BK347.out⟩, ⟨by repeat ((with_reducible exact HB.out))⟩⟩
                     ·rw [if_neg c62] at H
                      have c62b0 : decide (x125_6 < (x6_3.length : Int)) = false := decide_eq_false c62
                      clear c62
                      by_cases c79 : x17_6 = true
                      ·subst c79
                       have H1 : (if x348001_5.length < 17592186044416 then (spec_EndsSpace.l4 k6 x6_3 (wrap64 ((ji57) - 1)) (wrap64 (x15_5 + 1)) a0 (x348001_5 ++ [x15_5])) else (none)) = some (r1, r2, r3) := by rw [if_pos rfl] at H; exact H
                       clear H
                       have H := H1
                       clear H1
                       by_cases c80 : x348001_5.length < 17592186044416
                       ·rw [if_pos c80] at H
                        have LMc80 := Aside0.mk c80
                        clear c80
                        obtain ⟨y348, hy348⟩ : ∃ y_ : List Int, y_ = (x348001_5 ++ [x15_5]) := ⟨_, rfl⟩
                        replace H : (spec_EndsSpace.l4 k6 x6_3 (wrap64 ((ji57) - 1)) (wrap64 (x15_5 + 1)) a0 y348) = some (r1, r2, r3) := by (rw [hy348]; with_reducible exact H)
                        have Ny348 := Aside0.mk hy348
                        clear hy348
                        have H' := Aside0.mk H
                        clear H
                        have hnb81 := NB347_327.out
                        have hnc81 := NB327_347.out
                        have hcz82_0 : wr.cell? ⟨gb347, 0, none⟩ = some (.int .i64 a0) := (blk_cell BK347.out 0).trans rfl
                        have hcz82_1 : wr.cell? ⟨gb347, 1, none⟩ = some (u348001) := (blk_cell BK347.out 1).trans rfl
                        have hfz82_0 := blk_frozen BK347.out 0
                        have hfz82_1 := blk_frozen BK347.out 1
                        go_wp2_with (((with_reducible refine gate_builtin (b := .append) (xs := #[.tmp 173, .tmp 175]) rfl ?_); (try (refine gate_guard (by rfl) ?_; dsimp only)); at_builtin; refine Kd.R_append (Kd.int .i64) (w0 := w) w.heap.size rfl (.tmp 173) (.tmp 175) 22 3 (.int .i64 0) 8 rfl Try.underlying22 info3 rfl (by decide) (by omega) u348001 x348001_5 x15_5 [.int .i64 x15_5] (fun k_ => some k_ ≠ (.slice Ao49 x6_3.length co49 : Value).ownBlock) (fun _ => False) rfl rfl ?aP (fun _ hk => hk.elim) ?aF ?aO ?aB ?aS ?aL ?_; (case aP => exact rfl); (case aB => exact (by repeat ((with_reducible exact HB.out)))); (case aF => exact (fun k_ hk => Kd.fresh' (Kd.R_lt (by (with_reducible repeat (apply Kd.R_drew)); exact HO_6.out)) k_ hk)); (case aO => exact (by (with_reducible repeat (apply Kd.R_drew)); exact HO_348001.out)); (case aS => exact (below_size (by repeat ((with_reducible exact HB.out))))); (case aL => have := LMc80.out; omega); intro v349 w83 ho hb hg hat; rw [← Ny348.out] at ho; have n0_ := Aside0.mk (Kd.R_after (ok := (fun _ => True)) (by (with_reducible repeat (apply Kd.R_drew)); exact Kd.R_mono HO_6.out (fun _ hk => ⟨trivial, hk⟩)) hg hat); have n1_ := Aside0.mk (blk_grown (g := gb327) (o := .cells #[.int .i64 x328000_4, .slice none 0 0] 28 (0, 0)) (by (with_reducible repeat (refine blk_drew ?_)); exact BK327.out) hg (Kd.R_ne HO_348001.out BK327.out (by decide))); have n2_ := Aside0.mk (blk_grown (g := gb347) (o := .cells #[.int .i64 a0, u348001] 28 (0, 0)) (by (with_reducible repeat (refine blk_drew ?_)); exact BK347.out) hg (Kd.R_ne HO_348001.out BK347.out (by decide))); have n3_ := Aside0.mk (hb); have n4_ := Aside0.mk (ho); clear HO_6; clear BK327; clear BK347; clear HB; clear HO_348001; have HO_6 := n0_; have BK327 := n1_; have BK347 := n2_; have HB := n3_; have HO350 := n4_; clear n0_ n1_ n2_ n3_ n4_; clear ho hb hg hat; obtain ⟨Ao84, co84, eo84⟩ := Kd.R_slice HO350.out; subst eo84; have hcz85_0 : w83.cell? ⟨gb347, 0, none⟩ = some (.int .i64 a0) := (blk_cell BK347.out 0).trans rfl; have hcz85_1 : w83.cell? ⟨gb347, 1, none⟩ = some (u348001) := (blk_cell BK347.out 1).trans rfl; have hfz85_0 := blk_frozen BK347.out 0; have hfz85_1 := blk_frozen BK347.out 1))
                        go_roundg k6
                        case measure => have := HJ2.out; have := HK2.out; have := HK3.out; have := HK4.out; have := HK5.out; have := HK6.out; omega
                        case rel => exact ⟨(wrap64 (x15_5 + 1)), (y348), (.slice Ao84 y348.length co84), (by rfl), H', ⟨by have := HJ2.out; have := HK2.out; have := HK3.out; have := HK4.out; have := HK5.out; have := HK6.out; omega⟩, ⟨by (with_reducible repeat (apply Kd.R_drew)); exact Kd.R_mono (Kd.R_far (p := ⟨gb347, 1, none⟩) (Kd.R_types HO_6.out BK347.out (by decide)) (fun _ hk => hk.2) (.slice Ao84 y348.length co84)) (fun _ hk => hk.1.2)⟩, ⟨by (with_reducible repeat (apply Kd.R_drew)); exact Kd.R_mono (Kd.R_far (p := ⟨gb347, 1, none⟩) (Kd.R_types HO350.out BK347.out (by decide)) (fun _ hk => hk.2) (.slice Ao84 y348.length co84)) (fun _ hk => hk.1)⟩, ⟨by (with_reducible repeat (refine blk_drew ?_)); refine blk_far ?_ NB327_347.out _; (with_reducible repeat (refine blk_drew ?_)); exact BK327.out⟩, ⟨by (with_reducible repeat (refine blk_drew ?_)); refine blk_put (cs := #[.int .i64 a0, u348001]) ?_ 1 _ rfl; (with_reducible repeat (refine blk_drew ?_)); exact BK347.out⟩, ⟨by repeat ((with_reducible first | exact HB.out | refine below_set ?_ GE347.out))⟩⟩
                       ·rw [if_neg c80] at H
                        exact absurd H (by simp)
                      ·replace c79 := Bool.eq_false_iff.mpr c79
                       subst c79
                       have H1 : (spec_EndsSpace.l4 k6 x6_3 (wrap64 ((ji57) - 1)) (wrap64 (x15_5 + 1)) a0 x348001_5) = some (r1, r2, r3) := by rw [if_neg (show ¬ (false = true) by decide)] at H; exact H
                       clear H
                       have H := H1
                       clear H1
                       have H' := Aside0.mk H
                       clear H
                       go_wp2
                       go_roundg k6
                       case measure => have := HJ2.out; have := HK2.out; have := HK3.out; have := HK4.out; have := HK5.out; have := HK6.out; omega
                       case rel => exact ⟨(wrap64 (x15_5 + 1)), (x348001_5), (u348001), (by rfl), H', ⟨by have := HJ2.out; have := HK2.out; have := HK3.out; have := HK4.out; have := HK5.out; have := HK6.out; omega⟩, ⟨by (with_reducible repeat (apply Kd.R_drew)); exact HO_6.out⟩, ⟨by (with_reducible repeat (apply Kd.R_drew)); exact HO_348001.out⟩, ⟨by (with_reducible repeat (refine blk_drew ?_)); exact BK327.out⟩, ⟨by (with_reducible repeat (refine blk_drew ?_)); exact BK347.out⟩, ⟨by repeat ((with_reducible exact HB.out))⟩⟩
                  ·rw [if_neg c61] at H
                   have c61b0 : decide (x15_5 ≤ (wrap64 ((ji57) - 1))) = false := decide_eq_false c61
                   clear c61
                   simp only [Option.some.injEq, Prod.mk.injEq] at H
                   obtain ⟨rfl, rfl, rfl⟩ := H
                   have hnb86 := NB347_327.out
                   have hnc86 := NB327_347.out
                   have hcz87_0 : wr.cell? ⟨gb347, 0, none⟩ = some (.int .i64 a0) := (blk_cell BK347.out 0).trans rfl
                   have hcz87_1 : wr.cell? ⟨gb347, 1, none⟩ = some (u348001) := (blk_cell BK347.out 1).trans rfl
                   have hfz87_0 := blk_frozen BK347.out 0
                   have hfz87_1 := blk_frozen BK347.out 1
                   have hcz88_0 : wr.cell? ⟨gb327, 0, none⟩ = some (.int .i64 x328000_4) := (blk_cell BK327.out 0).trans rfl
                   have hcz88_1 : wr.cell? ⟨gb327, 1, none⟩ = some (.slice none 0 0) := (blk_cell BK327.out 1).trans rfl
                   have hfz88_0 := blk_frozen BK327.out 0
                   have hfz88_1 := blk_frozen BK327.out 1
                   obtain ⟨Ao89, co89, eo89⟩ := Kd.R_slice HO_348001.out
                   subst eo89
                   go_wp2
                   refine bodyPost_ret (results_ct rfl _ _ gb327 28 #[.int .i64 a0, .slice Ao89 x348001_5.length co89] (0, 0) _ rfl (by (with_reducible repeat (refine blk_drew ?_)); refine blk_put (cs := #[.int .i64 a0, .slice none 0 0]) ?_ 1 _ rfl; (with_reducible repeat (refine blk_drew ?_)); refine blk_put (cs := #[.int .i64 x328000_4, .slice none 0 0]) ?_ 0 _ rfl; (with_reducible repeat (refine blk_drew ?_)); exact BK327.out) Try.underlying28 rfl (by kernel_rfl)) rfl ?_
                   exact ⟨_, by rfl, by (with_reducible repeat (apply Kd.R_drew)); exact Kd.R_mono (Kd.R_far (p := ⟨gb327, 1, none⟩) (Kd.R_far (p := ⟨gb327, 0, none⟩) (Kd.R_types HO_348001.out BK327.out (by decide)) (fun _ hk => hk.2) (.int .i64 a0)) (fun _ hk => hk.2) (.slice Ao89 x348001_5.length co89)) (fun _ hk => trivial), by repeat ((with_reducible first | exact HB.out | refine below_set ?_ GE327.out))⟩
               ·rw [if_neg c56] at H
                exact absurd H (by simp)
     ·rw [if_neg c10] at H
      exact absurd H (by simp)
    ·rw [if_neg c9] at H
     exact absurd H (by simp)

end Go.Proofs.Ytekllaaohagefaa.P
