/- Functions of the program as plain Lean functions, each with a proof that the Go code computes it; written by a program of this session. Conditions: as each theorem states. -/
import Derived.Test.YtekllaaohagefaaCFnExactEndsSpaceP4
namespace Go.Proofs.Ytekllaaohagefaa.P
open Go.RowKit Go.Proofs.YtekllaaohagefaaW.PrintWords Go.Proofs.YtekllaaohagefaaW.PrintLast Go.Proofs.YtekllaaohagefaaW.PrintMore
attribute [local go_sem] max2_int min2_int max_two min_two max_three min_three max_four min_four   -- for this text's walks alone
set_option linter.unusedVariables false
set_option linter.unusedSimpArgs false

/-! ### impl_EndsSpace: function 24 -/
mutual
def impl_EndsSpace.j0 : Nat → List (List Int) → List Int → Bool → Option (Int × List Int × Bool)
 | 0, _, _, _ => none
 | k + 1, x1, x2, x21 => if x21 = true then (some (0, ([] : List Int), false)) else (if 0 < (x2.length : Int) then (if 0 ≤ (rd x2 0) then (if (rd x2 0 : Int).toNat ≤ 35184372088832 then ((some (([([] : List Int)] : List (List Int)) : List (List Int))).bind fun y410 => (if 0 < (y410.length : Int) then (impl_EndsSpace.l0 k x2 (y410.set (0 : Int).toNat (List.replicate (rd x2 0 : Int).toNat 0)) x1 (x1.length : Int) 0) else (none))) else (none)) else (none)) else (none))
def impl_EndsSpace.l0 : Nat → List Int → List (List Int) → List (List Int) → Int → Int → Option (Int × List Int × Bool)
 | 0, _, _, _, _, _ => none
 | k + 1, x2, x6, x25, x26, x27 => if x27 < x26 then (if 0 ≤ x27 then (if x27 < (x25.length : Int) then (if 0 < (x6.length : Int) then (if 0 < ((rd_L2 x25 x27).length : Int) then (if 0 ≤ (rd (rd_L2 x25 x27) 0) then (if (rd (rd_L2 x25 x27) 0) < ((rd_L2 x6 0).length : Int) then (if 1 < ((rd_L2 x25 x27).length : Int) then (if 0 ≤ (rd (rd_L2 x25 x27) 1) then (impl_EndsSpace.l0 k x2 (x6.set (0 : Int).toNat ((rd_L2 x6 0).set ((rd (rd_L2 x25 x27) 0) : Int).toNat (Go.bits .or .i64 (rd (rd_L2 x6 0) (rd (rd_L2 x25 x27) 0)) (shl .i64 1 (rd (rd_L2 x25 x27) 1))))) x25 x26 (wrap64 (x27 + 1))) else (none)) else (none)) else (none)) else (none)) else (none)) else (none)) else (none)) else (none)) else (if 0 < (x2.length : Int) then (impl_EndsSpace.l1 k x2 x6 (rd x2 0) 0) else (none))
def impl_EndsSpace.l1 : Nat → List Int → List (List Int) → Int → Int → Option (Int × List Int × Bool)
 | 0, _, _, _, _ => none
 | k + 1, x2, x6, x44, x45 => if x45 < x44 then (if 0 < (x2.length : Int) then (impl_EndsSpace.l2 k x2 x6 x44 x45 (rd x2 0) 0) else (none)) else (if 0 < (x2.length : Int) then (impl_EndsSpace.l4 k x2 x6 (rd x2 0) 0) else (none))
def impl_EndsSpace.l2 : Nat → List Int → List (List Int) → Int → Int → Int → Int → Option (Int × List Int × Bool)
 | 0, _, _, _, _, _, _ => none
 | k + 1, x2, x6, x44, x45, x47, x48 => if x48 < x47 then (if 0 < (x6.length : Int) then (if 0 ≤ x48 then (if x48 < ((rd_L2 x6 0).length : Int) then ((impl_items.f k (rd (rd_L2 x6 0) x48)).bind fun t426 => (impl_EndsSpace.l3 k x2 x6 x48 x44 x45 x47 x48 t426 (t426.length : Int) 0)) else (none)) else (none)) else (none)) else (impl_EndsSpace.l1 k x2 x6 x44 (wrap64 (x45 + 1)))
def impl_EndsSpace.l3 : Nat → List Int → List (List Int) → Int → Int → Int → Int → Int → List Int → Int → Int → Option (Int × List Int × Bool)
 | 0, _, _, _, _, _, _, _, _, _, _ => none
 | k + 1, x2, x6, x9, x44, x45, x47, x48, x55, x56, x57 => if x57 < x56 then (if 0 ≤ x57 then (if x57 < (x55.length : Int) then (if 0 < (x6.length : Int) then (if 0 ≤ x9 then (if x9 < ((rd_L2 x6 0).length : Int) then (if 0 ≤ (rd x55 x57) then (if (rd x55 x57) < ((rd_L2 x6 0).length : Int) then (impl_EndsSpace.l3 k x2 (x6.set (0 : Int).toNat ((rd_L2 x6 0).set (x9 : Int).toNat (Go.bits .or .i64 (rd (rd_L2 x6 0) x9) (rd (rd_L2 x6 0) (rd x55 x57))))) x9 x44 x45 x47 x48 x55 x56 (wrap64 (x57 + 1))) else (none)) else (none)) else (none)) else (none)) else (none)) else (none)) else (none)) else (impl_EndsSpace.l2 k x2 x6 x44 x45 x47 (wrap64 (x48 + 1)))
def impl_EndsSpace.l4 : Nat → List Int → List (List Int) → Int → Int → Option (Int × List Int × Bool)
 | 0, _, _, _, _ => none
 | k + 1, x2, x6, x74, x75 => if x75 < x74 then (if 0 < (x6.length : Int) then (if 0 ≤ x75 then (if x75 < ((rd_L2 x6 0).length : Int) then (if (Go.bits .and .i64 (shr .i64 (rd (rd_L2 x6 0) x75) x75) 1) = 1 then (some (0, ([] : List Int), false)) else (impl_EndsSpace.l4 k x2 x6 x74 (wrap64 (x75 + 1)))) else (none)) else (none)) else (none)) else (if 0 < (x2.length : Int) then ((impl_those__EndsSpace_1.f k (rd x2 0) x2 x6).bind fun bt441 => (some (bt441.1, bt441.2, true))) else (none))
end
def impl_EndsSpace.f (k : Nat) (a0 : Int) (l1 : List (List Int)) : Option (Int × List Int × Bool) := (some (([a0] : List Int) : List Int)).bind fun y398 => (if 0 < (y398.length : Int) then ((impl_isSize.f (rd y398 0)).bind fun t403 => (if t403 = true then ((impl_arePairs.f k (rd y398 0) l1).bind fun t405 => (impl_EndsSpace.j0 k l1 y398 (!t405))) else (impl_EndsSpace.j0 k l1 y398 true))) else (none))
theorem impl_EndsSpace.mono_l : ∀ k, (∀ y0 y1 y2, LeO (impl_EndsSpace.j0 k y0 y1 y2) (impl_EndsSpace.j0 (k + 1) y0 y1 y2)) ∧ (∀ y0 y1 y2 y3 y4, LeO (impl_EndsSpace.l0 k y0 y1 y2 y3 y4) (impl_EndsSpace.l0 (k + 1) y0 y1 y2 y3 y4)) ∧ (∀ y0 y1 y2 y3, LeO (impl_EndsSpace.l1 k y0 y1 y2 y3) (impl_EndsSpace.l1 (k + 1) y0 y1 y2 y3)) ∧ (∀ y0 y1 y2 y3 y4 y5, LeO (impl_EndsSpace.l2 k y0 y1 y2 y3 y4 y5) (impl_EndsSpace.l2 (k + 1) y0 y1 y2 y3 y4 y5)) ∧ (∀ y0 y1 y2 y3 y4 y5 y6 y7 y8 y9, LeO (impl_EndsSpace.l3 k y0 y1 y2 y3 y4 y5 y6 y7 y8 y9) (impl_EndsSpace.l3 (k + 1) y0 y1 y2 y3 y4 y5 y6 y7 y8 y9)) ∧ (∀ y0 y1 y2 y3, LeO (impl_EndsSpace.l4 k y0 y1 y2 y3) (impl_EndsSpace.l4 (k + 1) y0 y1 y2 y3))
 | 0 => ⟨fun _ _ _ r h => by simp [impl_EndsSpace.j0] at h, fun _ _ _ _ _ r h => by simp [impl_EndsSpace.l0] at h, fun _ _ _ _ r h => by simp [impl_EndsSpace.l1] at h, fun _ _ _ _ _ _ r h => by simp [impl_EndsSpace.l2] at h, fun _ _ _ _ _ _ _ _ _ _ r h => by simp [impl_EndsSpace.l3] at h, fun _ _ _ _ r h => by simp [impl_EndsSpace.l4] at h⟩
 | k + 1 => by
  obtain ⟨ih0, ih1, ih2, ih3, ih4, ih5⟩ := impl_EndsSpace.mono_l k
  refine ⟨?_, ?_, ?_, ?_, ?_, ?_⟩
  ·intro y0 y1 y2
   unfold impl_EndsSpace.j0
   repeat' first
   | (with_reducible exact ih1 _ _ _ _ _)
   | (with_reducible exact LeO.refl _)
   | (with_reducible refine LeO.ite ?_ ?_)
   | (with_reducible refine LeO.bind ?_ (fun _ => ?_))
  ·intro y0 y1 y2 y3 y4
   unfold impl_EndsSpace.l0
   repeat' first
   | (with_reducible exact ih1 _ _ _ _ _)
   | (with_reducible exact ih2 _ _ _ _)
   | (with_reducible exact LeO.refl _)
   | (with_reducible refine LeO.ite ?_ ?_)
  ·intro y0 y1 y2 y3
   unfold impl_EndsSpace.l1
   repeat' first
   | (with_reducible exact ih3 _ _ _ _ _ _)
   | (with_reducible exact ih5 _ _ _ _)
   | (with_reducible exact LeO.refl _)
   | (with_reducible refine LeO.ite ?_ ?_)
  ·intro y0 y1 y2 y3 y4 y5
   unfold impl_EndsSpace.l2
   repeat' first
   | (with_reducible exact ih2 _ _ _ _)
   | (with_reducible exact ih4 _ _ _ _ _ _ _ _ _ _)
   | (with_reducible exact impl_items.mono _ _)
   | (with_reducible exact LeO.refl _)
   | (with_reducible refine LeO.ite ?_ ?_)
   | (with_reducible refine LeO.bind ?_ (fun _ => ?_))
  ·intro y0 y1 y2 y3 y4 y5 y6 y7 y8 y9
   unfold impl_EndsSpace.l3
   repeat' first
   | (with_reducible exact ih3 _ _ _ _ _ _)
   | (with_reducible exact ih4 _ _ _ _ _ _ _ _ _ _)
   | (with_reducible exact LeO.refl _)
   | (with_reducible refine LeO.ite ?_ ?_)
  ·intro y0 y1 y2 y3
   unfold impl_EndsSpace.l4
   repeat' first
   | (with_reducible exact ih5 _ _ _ _)
   | (with_reducible exact impl_those__EndsSpace_1.mono _ _ _ _)
   | (with_reducible exact LeO.refl _)
   | (with_reducible refine LeO.ite ?_ ?_)
   | (with_reducible refine LeO.bind ?_ (fun _ => ?_))
theorem impl_EndsSpace.mono : ∀ a0 a1 k, LeO (impl_EndsSpace.f k a0 a1) (impl_EndsSpace.f (k + 1) a0 a1) := by
 intro a0 a1 k
 obtain ⟨ih0, ih1, ih2, ih3, ih4, ih5⟩ := impl_EndsSpace.mono_l k
 unfold impl_EndsSpace.f
 repeat' first
   | (with_reducible exact ih0 _ _ _)
   | (with_reducible exact impl_arePairs.mono _ _ _)
   | (with_reducible exact LeO.refl _)
   | (with_reducible refine LeO.ite ?_ ?_)
   | (with_reducible refine LeO.bind ?_ (fun _ => ?_))
def impl_EndsSpace.T7 : Bool × List (List Nat × List Nat) := (true, [([], []), ([], []), ([1], [1]), ([2], [2]), ([0, 3], [0, 3]), ([4], [4]), ([], []), ([6], [6]), ([7], [7]), ([8], [8]), ([5, 9], [5, 9]), ([0, 3, 0, 1, 2, 3, 4, 5, 6, 7, 8, 9, 10], [0, 3]), ([11, 10, 0, 1, 2, 3, 4, 5, 6, 7, 8, 9, 10], [10, 11])])
def impl_EndsSpace.B7 : List Nat := [0, 0, 2, 6, 15, 31, 0, 64, 192, 448, 1023, 2047, 4095]
theorem impl_EndsSpace.tab7 : rtab .any (opsOf Try.f24 7) = impl_EndsSpace.T7 := by kernel_rfl
theorem impl_EndsSpace.bits7 : waitsOk impl_EndsSpace.T7.2 impl_EndsSpace.B7 = true := by kernel_rfl
def impl_EndsSpace.T17 : Bool × List (List Nat × List Nat) := (true, [([], []), ([], []), ([0, 1], [0, 1]), ([2], [2]), ([], []), ([], []), ([4, 5], [4, 5]), ([6], [6]), ([3, 7], [3, 7]), ([0, 1, 0, 1, 2, 3, 4, 5, 6, 7, 8], [0, 1]), ([9, 8, 0, 1, 2, 3, 4, 5, 6, 7, 8], [8, 9])])
def impl_EndsSpace.B17 : List Nat := [0, 0, 3, 7, 0, 0, 48, 112, 255, 511, 1023]
theorem impl_EndsSpace.tab17 : rtab .any (opsOf Try.f24 17) = impl_EndsSpace.T17 := by kernel_rfl
theorem impl_EndsSpace.bits17 : waitsOk impl_EndsSpace.T17.2 impl_EndsSpace.B17 = true := by kernel_rfl
set_option maxHeartbeats 8000000 in
set_option maxRecDepth 100000 in
theorem impl_EndsSpace.calls (k : Nat) (a0 : Int) (A1 : Option Addr) (c1 : Nat) (l1 : List (List Int)) (r1 : Int) (r2 : List Int) (r3 : Bool) (w : World) (hr1 : Kd.C (Kd.slice 3 (Kd.int .i64)) w A1 l1.length l1) (hc1 : l1.length ≤ c1) (h : impl_EndsSpace.f k a0 l1 = some (r1, r2, r3)) :
  Calls Try.prog 24 #[.int .i64 a0, .slice A1 l1.length c1] w fun e w' => ∃ v1_ : Value, e = .returned (.tuple #[.agg #[.int .i64 r1, v1_], .bool r3]) ∧ Kd.R (Kd.int .i64) 3 w' w.heap.size (fun _ => True) v1_ r2 ∧ Below w.heap.size w w' := by
 have hu28 := Try.underlying28
 have HR1 := Aside0.mk hr1
 have HC1 := Aside0.mk hc1
 clear hr1 hc1
 have HB := Aside0.mk (Below.refl w.heap.size w)
 have H : ((some (([a0] : List Int) : List Int)).bind fun y398 => (if 0 < (y398.length : Int) then ((impl_isSize.f (rd y398 0)).bind fun t403 => (if t403 = true then ((impl_arePairs.f k (rd y398 0) l1).bind fun t405 => (impl_EndsSpace.j0 k l1 y398 (!t405))) else (impl_EndsSpace.j0 k l1 y398 true))) else (none))) = some (r1, r2, r3) := h
 clear h
 obtain ⟨y398, hy398⟩ : ∃ y_ : List Int, y_ = (([a0] : List Int)) := ⟨_, rfl⟩
 replace H : (if 0 < (y398.length : Int) then ((impl_isSize.f (rd y398 0)).bind fun t403 => (if t403 = true then ((impl_arePairs.f k (rd y398 0) l1).bind fun t405 => (impl_EndsSpace.j0 k l1 y398 (!t405))) else (impl_EndsSpace.j0 k l1 y398 true))) else (none)) = some (r1, r2, r3) := by (have H2_ := (Option.bind_some _ _).symm.trans H; rw [hy398]; with_reducible exact H2_)
 have Ny398 := Aside0.mk hy398
 clear hy398
 have HC3 := Aside0.mk H
 clear H
 have hmf_ : ∀ (fn : Fn) (first cap : Array Value) (w : World), (Instr.makeFunc fn first cap).run Try.prog w = .ok (.func fn first cap) w := fun _ _ _ _ => rfl
 go_enter Try.func24, Try.ntmps24
 go_upto_region 1 with (first | ((with_reducible refine gate_dst (N := 2) rfl ?_); refine box_R (Kd.int .i64) _ 3 ?hg (N := 2) ?hd (xs := ([a0] : List Int)) (inner := [.int .i64 a0]) (ok := fun _ => True) (okp := fun _ => True) ?hr ?hp (fun _ hk => hk) trivial (Below.refl _ _) (Nat.le_refl _) (by simp) ?_; (case hd => rfl); (case hg => rfl); (case hr => (go_simp; done)); (case hp => exact (Reps.one (show Kd.M (Kd.int .i64) _ _ _ a0 [.int .i64 a0] from rfl) (Reps.none _ _))); intro v399 w4 ho5 hb hg_ hnew_; clear hg_ hnew_; (rw [← Ny398.out] at ho5); have n0_ := Aside0.mk (Kd.R_lower ho5 (below_size (by repeat ((with_reducible exact HB.out))))); have n1_ := Aside0.mk (below_step (by repeat ((with_reducible exact HB.out))) hb); clear HB; have HO400 := n0_; have HB := n1_; clear n0_ n1_; clear hb ho5) | ((with_reducible refine gate_dst (N := 4) rfl ?_); refine box_event ?hg (N := 4) ?hd (cs := #[.int .i64 0, .slice none 0 0]) (t := 28) ?hr ?_; (case hd => rfl); (case hg => rfl); (case hr => (go_simp; done)); intro gb401 hg w6 hbox hb; have n0_ := Aside0.mk (Kd.R_below (by (with_reducible repeat (apply Kd.R_drew)); exact HO400.out) hb); have n1_ := Aside0.mk (below_step (by repeat ((with_reducible exact HB.out))) hb); have n2_ := Aside0.mk (hbox); have n3_ := Aside0.mk ((by rw [hg]; exact (below_size (by repeat ((with_reducible exact HB.out)))) : w.heap.size ≤ gb401)); have n4_ := Aside0.mk ((by rw [hg]; exact (below_size (by repeat ((with_reducible exact HB.out)))) : w.heap.size ≤ gb401)); clear HO400; clear HB; have HO400 := n0_; have HB := n1_; have BK401 := n2_; have GW401 := n3_; have GE401 := n4_; clear n0_ n1_ n2_ n3_ n4_; clear hb hbox hg))
 skip
 go_cut [21] (fun v21 wc => ∃ (kq : Nat) (x21_2 : Bool), v21 = .bool x21_2 ∧ Aside0 (impl_EndsSpace.j0 kq l1 y398 x21_2 = some (r1, r2, r3)) ∧ Aside0 (kq ≤ k) ∧ Aside0 (Kd.R (Kd.int .i64) 3 wc w.heap.size (fun _ => True) v399 y398) ∧ Aside0 (wc.heap[gb401]? = some (.cells #[.int .i64 0, (.slice none 0 0)] 28 (0, 0))) ∧ Aside0 (Below w.heap.size w wc))
 case first =>
  have H := HC3.out
  clear HC3
  by_cases c7 : 0 < (y398.length : Int)
  ·rw [if_pos c7] at H
   have c7b0 : decide (0 < (y398.length : Int)) = true := decide_eq_true c7
   have c7b1 : decide (0 < y398.length) = true := decide_eq_true (by omega)
   clear c7
   (skip)
   replace H := Option.bind_eq_some_iff.mp H
   obtain ⟨t403, A80, H⟩ := H
   replace H : (if t403 = true then ((impl_arePairs.f k (rd y398 0) l1).bind fun t405 => (impl_EndsSpace.j0 k l1 y398 (!t405))) else (impl_EndsSpace.j0 k l1 y398 true)) = some (r1, r2, r3) := H
   have A8 := Aside0.mk A80
   clear A80
   by_cases c9 : t403 = true
   ·subst c9
    have H1 : ((impl_arePairs.f k (rd y398 0) l1).bind fun t405 => (impl_EndsSpace.j0 k l1 y398 (!t405))) = some (r1, r2, r3) := by rw [if_pos rfl] at H; exact H
    clear H
    have H := H1
    clear H1
    replace H := Option.bind_eq_some_iff.mp H
    obtain ⟨t405, A100, H⟩ := H
    replace H : (impl_EndsSpace.j0 k l1 y398 (!t405)) = some (r1, r2, r3) := H
    have A10 := Aside0.mk A100
    clear A100
    have H' := Aside0.mk H
    clear H
    obtain ⟨Ao11, co11, eo11⟩ := Kd.R_slice HO400.out
    subst eo11
    (try simp only [asP_slice])
    have p402 : 0 ≤ (0 : Int) := (by omega)
    have q402 : 0 < (y398.length : Int) := of_decide_eq_true (by (with_reducible assumption))
    obtain ⟨ad402, e402, hx402_0⟩ := Kd.at_int (Kd.R_reads' HO400.out).2.2 0 p402 q402
    cases e402
    have qi402 : (0 < y398.length) = True := eq_true (by omega)
    (try rw [show ((0 : Int)).toNat = 0 from rfl] at hx402_0)
    (try rw [Addr.add_zero'] at hx402_0)
    replace p402 := eq_true p402
    replace q402 := eq_true q402
    go_wp2_with (first | ((with_reducible refine gate_callee (f := 54) rfl ?_); refine goesL_ (some 14) rfl rfl Try.func54 (by kernel_rfl) rfl #[.int .i64 (rd y398 0)] rfl (by (try simp only [List.map_toArray, List.map_cons, List.map_nil]); rfl) ?_; (with_reducible refine (impl_isSize.calls (rd y398 0) true _ A8.out).mono ?_); rintro e w' ⟨rfl, ⟨nd, rfl⟩⟩; refine ⟨_, rfl, ?_⟩; have p404 : 0 ≤ (0 : Int) := (by omega); have q404 : 0 < (y398.length : Int) := of_decide_eq_true (by (with_reducible assumption)); obtain ⟨ad404, e404, hx404_0⟩ := Kd.at_int (Kd.R_reads' HO400.out).2.2 0 p404 q404; obtain rfl : ad402 = ad404 := (by injection e404); have qi404 : (0 < y398.length) = True := eq_true (by omega); (try rw [show ((0 : Int)).toNat = 0 from rfl] at hx404_0); (try rw [Addr.add_zero'] at hx404_0); replace p404 := eq_true p404; replace q404 := eq_true q404) | (go_at_call 55; (with_reducible refine (impl_arePairs.calls k (rd y398 0) _ _ l1 t405 _ ?side1 ?side2 A10.out).mono ?_); (case side1 => repeat ((exact (Kd.C_below HR1.out (by repeat ((with_reducible first | exact HB.out | apply pw_below_drewN))))))); (case side2 => exact HC1.out); rintro e w12 ⟨rfl, hb⟩; have n0_ := Aside0.mk (Kd.R_below (by (with_reducible repeat (apply Kd.R_drewN)); exact HO400.out) hb); have n1_ := Aside0.mk (blk_below (g := gb401) (o := .cells #[.int .i64 0, .slice none 0 0] 28 (0, 0)) (by (with_reducible repeat (refine blk_drewN ?_ _)); exact BK401.out) hb); have n2_ := Aside0.mk (below_step (by repeat ((with_reducible first | exact HB.out | apply pw_below_drewN))) hb); clear HO400; clear BK401; clear HB; have HO400 := n0_; have BK401 := n1_; have HB := n2_; clear n0_ n1_ n2_; (try clear hb); skip))
    go_meet
    case rel => exact ⟨_, (!t405), (by rfl), H', ⟨by omega⟩, ⟨by (with_reducible repeat (apply Kd.R_drew)); exact HO400.out⟩, ⟨by (with_reducible repeat (refine blk_drew ?_)); exact BK401.out⟩, ⟨by repeat ((with_reducible exact HB.out))⟩⟩
   ·replace c9 := Bool.eq_false_iff.mpr c9
    subst c9
    have H1 : (impl_EndsSpace.j0 k l1 y398 true) = some (r1, r2, r3) := by rw [if_neg (show ¬ (false = true) by decide)] at H; exact H
    clear H
    have H := H1
    clear H1
    have H' := Aside0.mk H
    clear H
    obtain ⟨Ao13, co13, eo13⟩ := Kd.R_slice HO400.out
    subst eo13
    (try simp only [asP_slice])
    have p402 : 0 ≤ (0 : Int) := (by omega)
    have q402 : 0 < (y398.length : Int) := of_decide_eq_true (by (with_reducible assumption))
    obtain ⟨ad402, e402, hx402_0⟩ := Kd.at_int (Kd.R_reads' HO400.out).2.2 0 p402 q402
    cases e402
    have qi402 : (0 < y398.length) = True := eq_true (by omega)
    (try rw [show ((0 : Int)).toNat = 0 from rfl] at hx402_0)
    (try rw [Addr.add_zero'] at hx402_0)
    replace p402 := eq_true p402
    replace q402 := eq_true q402
    go_wp2_with (((with_reducible refine gate_callee (f := 54) rfl ?_); refine goesL_ (some 14) rfl rfl Try.func54 (by kernel_rfl) rfl #[.int .i64 (rd y398 0)] rfl (by (try simp only [List.map_toArray, List.map_cons, List.map_nil]); rfl) ?_; (with_reducible refine (impl_isSize.calls (rd y398 0) false _ A8.out).mono ?_); rintro e w' ⟨rfl, ⟨nd, rfl⟩⟩; refine ⟨_, rfl, ?_⟩))
    go_meet
    case rel => exact ⟨_, (true), (by rfl), H', ⟨by omega⟩, ⟨by (with_reducible repeat (apply Kd.R_drewN)); exact HO400.out⟩, ⟨by (with_reducible repeat (refine blk_drewN ?_ _)); exact BK401.out⟩, ⟨by repeat ((with_reducible first | exact HB.out | apply pw_below_drewN))⟩⟩
  ·rw [if_neg c7] at H
   exact absurd H (by simp)
 case rest =>
  clear HC3
  try clear c1
  try clear c2
  try clear p2
  try clear p4
  try clear q4
  try clear hx4
  try clear qi4
  try clear c5
  try clear c7
  try clear c7b0
  try clear c7b1
  try clear c9
  try clear hx402_0
  try clear hx404_0
  try clear p402
  try clear p404
  try clear q402
  try clear q404
  obtain ⟨kq, x21_2, rfl, HA, HJ2, HO_2, BK401, HB⟩ := hcut
  cases kq with
  | zero => exact absurd HA.out (by simp [impl_EndsSpace.j0])
  | succ kj2 =>
   have H := HA.out
   clear HA
   simp only [impl_EndsSpace.j0] at H
   by_cases c14 : x21_2 = true
   ·subst c14
    have H1 : (some (0, ([] : List Int), false)) = some (r1, r2, r3) := by rw [if_pos rfl] at H; exact H
    clear H
    have H := H1
    clear H1
    simp only [Option.some.injEq, Prod.mk.injEq] at H
    obtain ⟨rfl, rfl, rfl⟩ := H
    have hcz15_0 : wc.cell? ⟨gb401, 0, none⟩ = some (.int .i64 0) := (blk_cell BK401.out 0).trans rfl
    have hcz15_1 : wc.cell? ⟨gb401, 1, none⟩ = some (.slice none 0 0) := (blk_cell BK401.out 1).trans rfl
    have hfz15_0 := blk_frozen BK401.out 0
    have hfz15_1 := blk_frozen BK401.out 1
    go_wp2
    refine bodyPost_ret (results_ct rfl _ _ gb401 28 #[.int .i64 0, .slice none 0 0] (0, 0) _ rfl (by (with_reducible repeat (refine blk_drew ?_)); refine blk_put (cs := #[.int .i64 0, .slice none 0 0]) ?_ 1 _ rfl; (with_reducible repeat (refine blk_drew ?_)); refine blk_put (cs := #[.int .i64 0, .slice none 0 0]) ?_ 0 _ rfl; (with_reducible repeat (refine blk_drew ?_)); exact BK401.out) Try.underlying28 rfl (by kernel_rfl)) rfl ?_
    exact ⟨_, by rfl, by exact Kd.R_nil _ _ _ _ _, by repeat ((with_reducible first | exact HB.out | refine below_set ?_ GE401.out))⟩
   ·replace c14 := Bool.eq_false_iff.mpr c14
    subst c14
    have H1 : (if 0 < (y398.length : Int) then (if 0 ≤ (rd y398 0) then (if (rd y398 0 : Int).toNat ≤ 35184372088832 then ((some (([([] : List Int)] : List (List Int)) : List (List Int))).bind fun y410 => (if 0 < (y410.length : Int) then (impl_EndsSpace.l0 kj2 y398 (y410.set (0 : Int).toNat (List.replicate (rd y398 0 : Int).toNat 0)) l1 (l1.length : Int) 0) else (none))) else (none)) else (none)) else (none)) = some (r1, r2, r3) := by rw [if_neg (show ¬ (false = true) by decide)] at H; exact H
    clear H
    have H := H1
    clear H1
    by_cases c16 : 0 < (y398.length : Int)
    ·rw [if_pos c16] at H
     have c16b0 : decide (0 < (y398.length : Int)) = true := decide_eq_true c16
     have c16b1 : decide (0 < y398.length) = true := decide_eq_true (by omega)
     clear c16
     by_cases c17 : 0 ≤ (rd y398 0)
     ·rw [if_pos c17] at H
      have c17b0 := eq_true c17
      have c17b1 : decide (0 ≤ (rd y398 0)) = true := decide_eq_true c17
      clear c17
      by_cases c18 : (rd y398 0 : Int).toNat ≤ 35184372088832
      ·rw [if_pos c18] at H
       have c18b0 := eq_true c18
       have c18b1 : decide ((rd y398 0 : Int).toNat ≤ 35184372088832) = true := decide_eq_true c18
       clear c18
       obtain ⟨y407, hy407⟩ : ∃ y_ : List Int, y_ = (List.replicate (rd y398 0 : Int).toNat 0) := ⟨_, rfl⟩
       replace H : ((some (([([] : List Int)] : List (List Int)) : List (List Int))).bind fun y410 => (if 0 < (y410.length : Int) then (impl_EndsSpace.l0 kj2 y398 (y410.set (0 : Int).toNat y407) l1 (l1.length : Int) 0) else (none))) = some (r1, r2, r3) := by (rw [hy407]; with_reducible exact H)
       have Ny407 := Aside0.mk hy407
       clear hy407
       obtain ⟨y410, hy410⟩ : ∃ y_ : List (List Int), y_ = (([([] : List Int)] : List (List Int))) := ⟨_, rfl⟩
       replace H : (if 0 < (y410.length : Int) then (impl_EndsSpace.l0 kj2 y398 (y410.set (0 : Int).toNat y407) l1 (l1.length : Int) 0) else (none)) = some (r1, r2, r3) := by (have H2_ := (Option.bind_some _ _).symm.trans H; rw [hy410]; with_reducible exact H2_)
       have Ny410 := Aside0.mk hy410
       clear hy410
       by_cases c19 : 0 < (y410.length : Int)
       ·rw [if_pos c19] at H
        have c19b0 : decide (0 < (y410.length : Int)) = true := decide_eq_true c19
        have c19b1 : decide (0 < y410.length) = true := decide_eq_true (by omega)
        clear c19
        obtain ⟨y413, hy413⟩ : ∃ y_ : List (List Int), y_ = (y410.set (0 : Int).toNat y407) := ⟨_, rfl⟩
        replace H : (impl_EndsSpace.l0 kj2 y398 y413 l1 (l1.length : Int) 0) = some (r1, r2, r3) := by (rw [hy413]; with_reducible exact H)
        have Ny413 := Aside0.mk hy413
        clear hy413
        have H' := Aside0.mk H
        clear H
        obtain ⟨Ao21, co21, eo21⟩ := Kd.R_slice HO_2.out
        subst eo21
        (try simp only [asP_slice])
        have p406 : 0 ≤ (0 : Int) := (by omega)
        have q406 : 0 < (y398.length : Int) := of_decide_eq_true (by (with_reducible assumption))
        obtain ⟨ad406, e406, hx406_0⟩ := Kd.at_int (Kd.R_reads' HO_2.out).2.2 0 p406 q406
        cases e406
        have qi406 : (0 < y398.length) = True := eq_true (by omega)
        (try rw [show ((0 : Int)).toNat = 0 from rfl] at hx406_0)
        (try rw [Addr.add_zero'] at hx406_0)
        replace p406 := eq_true p406
        replace q406 := eq_true q406
        go_wp2_with (first | ((with_reducible refine gate_dst (N := 24) rfl ?_); refine Kd.R_make (Kd.int .i64) _ 3 rfl (N := 24) rfl 22 _ _ rfl (rd y398 0) rfl rfl Try.underlying22 (.int .i64 0) 8 info3 rfl (by decide) (by omega) 0 (ok := fun _ => True) (okp := fun _ => True) rfl (fun _ hk => hk) trivial (of_decide_eq_true (by (with_reducible assumption))) (Nat.le_trans (Nat.mul_le_mul_right _ (of_decide_eq_true (by (with_reducible assumption)) : (rd y398 0).toNat ≤ 35184372088832)) (by omega)) (Below.refl _ _) (Nat.le_refl _) ?_; intro v408 w22 ho23 hb hg_ hnew_; clear hg_ hnew_; (rw [← Ny407.out] at ho23); have n0_ := Aside0.mk (Kd.R_elder' (by (with_reducible repeat (apply Kd.R_drew)); exact HO_2.out) (Kd.R_base ho23) hb); have n1_ := Aside0.mk (Kd.R_lower (Kd.R_new' ho23 (Kd.R_lt (by (with_reducible repeat (apply Kd.R_drew)); exact HO_2.out))) (below_size (by repeat ((with_reducible exact HB.out))))); have n2_ := Aside0.mk (blk_below (g := gb401) (o := .cells #[.int .i64 0, .slice none 0 0] 28 (0, 0)) (by (with_reducible repeat (refine blk_drew ?_)); exact BK401.out) hb); have n3_ := Aside0.mk (below_step (by repeat ((with_reducible exact HB.out))) hb); clear HO_2; clear BK401; clear HB; have HO_2 := n0_; have HO409 := n1_; have BK401 := n2_; have HB := n3_; clear n0_ n1_ n2_ n3_; clear hb ho23) | ((with_reducible refine gate_dst (N := 6) rfl ?_); refine box_S (Kd.slice 3 (Kd.int .i64)) _ 22 ?hg (N := 6) ?hd (xs := ([([] : List Int)] : List (List Int))) (inner := [.slice none 0 0]) (ok := fun _ => True) (okp := fun _ => True) ?hr ?hp (fun _ hk => hk) trivial (Below.refl _ _) (Nat.le_refl _) (by simp) ?_; (case hd => rfl); (case hg => rfl); (case hr => (go_simp; done)); (case hp => exact (Reps.one (show Kd.M (Kd.slice 3 (Kd.int .i64)) _ _ _ ([] : List Int) [.slice none 0 0] from ⟨_, rfl, Kd.R_nil _ _ _ _ _⟩) (Reps.none _ _))); intro v411 w24 ho25 hb hg_ hnew_; clear hg_ hnew_; (rw [← Ny410.out] at ho25); have n0_ := Aside0.mk (Kd.R_below (by (with_reducible repeat (apply Kd.R_drew)); exact HO_2.out) hb); have n1_ := Aside0.mk (Kd.R_below (by (with_reducible repeat (apply Kd.R_drew)); exact HO409.out) hb); have n2_ := Aside0.mk (Kd.S_lower (Kd.S_new' (Kd.S_new' ho25 (Kd.R_lt (by (with_reducible repeat (apply Kd.R_drew)); exact HO_2.out))) (Kd.R_lt (by (with_reducible repeat (apply Kd.R_drew)); exact HO409.out))) (below_size (by repeat ((with_reducible exact HB.out))))); have n3_ := Aside0.mk (blk_below (g := gb401) (o := .cells #[.int .i64 0, .slice none 0 0] 28 (0, 0)) (by (with_reducible repeat (refine blk_drew ?_)); exact BK401.out) hb); have n4_ := Aside0.mk (below_step (by repeat ((with_reducible exact HB.out))) hb); clear HO_2; clear HO409; clear BK401; clear HB; have HO_2 := n0_; have HO409 := n1_; have HO412 := n2_; have BK401 := n3_; have HB := n4_; clear n0_ n1_ n2_ n3_ n4_; clear hb ho25; have p20 : 0 ≤ (0 : Int) := (by omega); have q20 : (0 : Int) < ((y410.length : Int) : Int) := of_decide_eq_true (by (with_reducible assumption)); have qi20 : (0 < y410.length) = True := eq_true (by omega); obtain ⟨go20, co20, eo20, gb20, gl20, cl20, HG20⟩ := Kd.S_form HO412.out (by omega); (cases eo20); have GB20 := Aside0.mk gb20; have GG20 := Aside0.mk HG20; clear gb20 gl20 HG20; (try simp only [asP_slice]); obtain ⟨_, ce20, hcl20, hM20, hcc20, hfr20, _, _⟩ := Kd.S_elem HO412.out [] (0 : Int) p20 q20; obtain ⟨ve20_0, rfl, ge20_0⟩ := (id hM20); have hx20_0 := hcc20 0 _ rfl; have hf20_0 := hfr20 0; (try simp only [show ((Kd.slice 3 (Kd.int .i64))).sz = 1 from rfl, Nat.mul_one, Nat.add_zero] at hx20_0); (try simp only [show ((Kd.slice 3 (Kd.int .i64))).sz = 1 from rfl, Nat.mul_one, Nat.add_zero] at hf20_0); clear hcl20 hcc20 hfr20 hM20; (try rw [show ((0 : Int)).toNat = 0 from rfl] at hx20_0); (try rw [show ((0 : Int)).toNat = 0 from rfl] at hf20_0); replace p20 := eq_true p20; replace q20 := eq_true q20; obtain ⟨Ao28, co28, eo28⟩ := Kd.R_slice HO409.out; subst eo28; have n_ := Aside0.mk (Kd.S_mono (ok' := (fun k_ => some k_ ≠ (.slice (some ad406) y398.length co21 : Value).ownBlock ∧ some k_ ≠ (.slice Ao28 y407.length co28 : Value).ownBlock)) HO412.out (fun k_ hk => ⟨hk.1.2, hk.2⟩)); clear HO412; have HO412 := n_; clear n_; have HX26 := Aside0.mk (show Kd.S (Kd.slice 3 (Kd.int .i64)) 22 w24 w.heap.size (fun k_ => ((fun k_ => some k_ ≠ (.slice (some ad406) y398.length co21 : Value).ownBlock)) k_ ∧ ¬ ((fun k_ => some k_ = (.slice Ao28 y407.length co28 : Value).ownBlock)) k_) (.slice (some ⟨go20, 0, none⟩) y410.length co20) y410 from (by (with_reducible repeat (apply Kd.S_drew)); exact Kd.S_mono HO412.out (fun k_ hk => ⟨hk.1, fun e_ => hk.2 e_⟩))); obtain ⟨oki26, ce26, hcl26, hM26, hcc26, hfr26, hoki26, hH26⟩ := Kd.S_elem HX26.out [] (0 : Int) (by omega) (by have h_ : (0 : Int) < ((y410.length : Int) : Int) := of_decide_eq_true (by (with_reducible assumption)); exact h_); obtain ⟨ve26_0, rfl, ge26_0⟩ := (id hM26); have HP26 := Kd.S_seg hH26 (by omega) (by have h_ : (0 : Int) < ((y410.length : Int) : Int) := of_decide_eq_true (by (with_reducible assumption)); exact h_) (seg := [.slice Ao28 y407.length co28]) (j := 0) (show 1 ≤ 1 from by decide) (x' := y407) (Kd.M_row (Kd.R_mono (Kd.R_tight rfl (Kd.R_mono (ok' := fun k_ => ((fun k_ => some k_ ≠ (.slice (some ad406) y398.length co21 : Value).ownBlock)) k_ ∧ k_ ≠ go20) (Kd.R_apart' (HO409.out) (Kd.S_typed HO412.out) (by decide)) (fun k_ hk => ⟨hk.1.2, fun e_ => (hk.2) (by rw [e_]; rfl)⟩))) (fun _ h_ => Or.inr (h_)))) (fun _ hk => hk) (fun k_ hk_ => ((Kd.R_mono (ok' := fun k_ => ((fun k_ => some k_ ≠ (.slice (some ad406) y398.length co21 : Value).ownBlock)) k_ ∧ k_ ≠ go20) (Kd.R_apart' (HO409.out) (Kd.S_typed HO412.out) (by decide)) (fun k_ hk => ⟨hk.1.2, fun e_ => (hk.2) (by rw [e_]; rfl)⟩))).1 k_ hk_.symm); have hx26_0 := hcc26 0 _ rfl; (try simp only [show ((Kd.slice 3 (Kd.int .i64))).sz = 1 from rfl, Nat.mul_one, Nat.add_zero] at hx26_0); (try rw [show ((0 : Int)).toNat = 0 from rfl] at hx26_0); have hf26_0 := hfr26 0; (try simp only [show ((Kd.slice 3 (Kd.int .i64))).sz = 1 from rfl, Nat.mul_one, Nat.add_zero] at hf26_0); (try rw [show ((0 : Int)).toNat = 0 from rfl] at hf26_0); clear hcl26 hcc26 hfr26 hM26 hoki26 hH26; (try simp only [show ((Kd.slice 3 (Kd.int .i64))).sz = 1 from rfl, Nat.mul_one, Nat.add_zero] at HP26)) | ((with_reducible refine gate_store (t := 22) (p := 6) rfl ?_); refine store_event (t := 22) (p := 6) (v := ?vo_w27) (w1 := (w24.setCell ⟨go20, 0, none⟩ (.slice Ao28 y407.length co28))) ?hg ?ho ?hn ?hr ?_; (case ho => rfl); (case hg => rfl); (case hn => rfl); (case hr => (go_simp; done)); intro w27 hw; have hg : w24.grownBy w27 (some go20) := (by rw [hw]; exact HP26.2); have hp_ : Kd.S (Kd.slice 3 (Kd.int .i64)) 22 w27 w.heap.size (fun k_ => some k_ ≠ (.slice (some ad406) y398.length co21 : Value).ownBlock) (.slice (some ⟨go20, 0, none⟩) y410.length co20) y413 := (by rw [hw, Ny413.out]; exact HP26.1); clear HP26; have n0_ := Aside0.mk (Kd.R_over' (v := (.slice (some ⟨go20, 0, none⟩) y410.length co20)) (by (with_reducible repeat (apply Kd.R_drew)); exact HO_2.out) (Kd.S_typed HO412.out) (by decide) hg); have n1_ := Aside0.mk (blk_grown (g := gb401) (o := .cells #[.int .i64 0, .slice none 0 0] 28 (0, 0)) (by (with_reducible repeat (refine blk_drew ?_)); exact BK401.out) hg (Kd.S_ne HO412.out BK401.out (by decide))); have n2_ := Aside0.mk (hp_); have n3_ := Aside0.mk ((by rw [hw]; exact below_set (HB.out) GB20.out : Below w.heap.size w w27)); clear HO_2; clear BK401; clear HO412; clear HB; clear HO409; have HO_2 := n0_; have BK401 := n1_; have HO412 := n2_; have HB := n3_; clear n0_ n1_ n2_ n3_; clear hg hw hp_))
        go_loopg [27] kj2 (fun kq v27 w' => ∃ (x6_2 : List (List Int)) (x27_2 : Int), v27 = .int .i64 x27_2 ∧ Aside0 (impl_EndsSpace.l0 kq y398 x6_2 l1 (l1.length : Int) x27_2 = some (r1, r2, r3)) ∧ Aside0 (kq ≤ kj2) ∧ Aside0 (Kd.R (Kd.int .i64) 3 w' w.heap.size (fun _ => True) (.slice (some ad406) y398.length co21) y398) ∧ Aside0 (Kd.S (Kd.slice 3 (Kd.int .i64)) 22 w' w.heap.size (fun k_ => some k_ ≠ ((.slice (some ad406) y398.length co21) : Value).ownBlock) (.slice (some ⟨go20, 0, none⟩) y410.length co20) x6_2) ∧ Aside0 (w'.heap[gb401]? = some (.cells #[.int .i64 0, (.slice none 0 0)] 28 (0, 0))) ∧ Aside0 (Below w.heap.size w w'))
        case atStart => exact ⟨(y413), (0), (by rfl), H', ⟨Nat.le_refl _⟩, ⟨by (with_reducible repeat (apply Kd.R_drew)); exact Kd.R_mono HO_2.out (fun _ hk => trivial)⟩, ⟨by (with_reducible repeat (apply Kd.S_drew)); exact HO412.out⟩, ⟨by (with_reducible repeat (refine blk_drew ?_)); exact BK401.out⟩, ⟨by repeat ((with_reducible exact HB.out))⟩⟩
        case round =>
         clear H'
         try clear c1
         try clear c2
         try clear p2
         try clear q2
         try clear hx2
         try clear qi2
         try clear hf2
         try clear p4
         try clear q4
         try clear hx4
         try clear qi4
         try clear c5
         try clear c7
         try clear c7b0
         try clear c7b1
         try clear c9
         try clear c14
         try clear c16
         try clear c16b0
         try clear c16b1
         try clear c17
         try clear c17b0
         try clear c17b1
         try clear c18
         try clear c18b0
         try clear c18b1
         try clear c19
         try clear c19b0
         try clear c19b1
         try clear c20
         try clear p20
         try clear q20
         try clear hx20
         try clear qi20
         try clear hf20
         try clear c24
         try clear c26
         try clear hx26
         try clear hf26
         try clear hcz15_0
         try clear hcz15_1
         try clear hfz15_0
         try clear hfz15_1
         try clear hx20_0
         try clear hx26_0
         try clear hx402_0
         try clear hx404_0
         try clear hx406_0
         try clear p2
         try clear p20
         try clear p4
         try clear p402
         try clear p404
         try clear p406
         try clear q20
         try clear q4
         try clear q402
         try clear q404
         try clear q406
         obtain ⟨x6_2, x27_2, rfl, HA, HK2, HO_2, HO_6, BK401, HB⟩ := hrel
         have hl6_2 := (Kd.S_reads' HO_6.out).1
         rw [hl6_2] at HO_6
         skip
         skip
         skip
         cases gk with
         | zero => exact absurd HA.out (by simp [impl_EndsSpace.l0])
         | succ k2 =>
          have H := HA.out
          clear HA
          simp only [impl_EndsSpace.l0] at H
          by_cases c29 : x27_2 < (l1.length : Int)
          ·rw [if_pos c29] at H
           have c29b0 : decide (x27_2 < (l1.length : Int)) = true := decide_eq_true c29
           clear c29
           by_cases c30 : 0 ≤ x27_2
           ·rw [if_pos c30] at H
            have c30b0 : decide (0 ≤ x27_2) = true := decide_eq_true c30
            clear c30
            by_cases c31 : x27_2 < (l1.length : Int)
            ·rw [if_pos c31] at H
             have c31b0 : decide (x27_2 < (l1.length : Int)) = true := decide_eq_true c31
             clear c31
             by_cases c32 : 0 < (x6_2.length : Int)
             ·rw [if_pos c32] at H
              have c32b0 : decide (0 < (x6_2.length : Int)) = true := decide_eq_true c32
              have c32b1 : decide (0 < x6_2.length) = true := decide_eq_true (by omega)
              clear c32
              by_cases c33 : 0 < ((rd_L2 l1 x27_2).length : Int)
              ·rw [if_pos c33] at H
               have c33b0 : decide (0 < ((rd_L2 l1 x27_2).length : Int)) = true := decide_eq_true c33
               have c33b1 : decide (0 < (rd_L2 l1 x27_2).length) = true := decide_eq_true (by omega)
               clear c33
               by_cases c34 : 0 ≤ (rd (rd_L2 l1 x27_2) 0)
               ·rw [if_pos c34] at H
                have c34b0 : decide (0 ≤ (rd (rd_L2 l1 x27_2) 0)) = true := decide_eq_true c34
                clear c34
                by_cases c35 : (rd (rd_L2 l1 x27_2) 0) < ((rd_L2 x6_2 0).length : Int)
                ·rw [if_pos c35] at H
                 have c35b0 : decide ((rd (rd_L2 l1 x27_2) 0) < ((rd_L2 x6_2 0).length : Int)) = true := decide_eq_true c35
                 clear c35
                 by_cases c36 : 1 < ((rd_L2 l1 x27_2).length : Int)
                 ·rw [if_pos c36] at H
                  have c36b0 : decide (1 < ((rd_L2 l1 x27_2).length : Int)) = true := decide_eq_true c36
                  have c36b1 : decide (1 < (rd_L2 l1 x27_2).length) = true := decide_eq_true (by omega)
                  clear c36
                  by_cases c37 : 0 ≤ (rd (rd_L2 l1 x27_2) 1)
                  ·rw [if_pos c37] at H
                   have c37b0 := eq_true c37
                   have c37b1 : decide (0 ≤ (rd (rd_L2 l1 x27_2) 1)) = true := decide_eq_true c37
                   clear c37
                   obtain ⟨ji38, hji38⟩ : ∃ j_ : Int, (shl .i64 1 (rd (rd_L2 l1 x27_2) 1)) = j_ := ⟨_, rfl⟩
                   replace H : (impl_EndsSpace.l0 k2 y398 (x6_2.set (0 : Int).toNat ((rd_L2 x6_2 0).set ((rd (rd_L2 l1 x27_2) 0) : Int).toNat (Go.bits .or .i64 (rd (rd_L2 x6_2 0) (rd (rd_L2 l1 x27_2) 0)) (ji38)))) l1 (l1.length : Int) (wrap64 (x27_2 + 1))) = some (r1, r2, r3) := by (rw [hji38] at H; exact H)
                   have hji38_ : (IntKind.i64.wrap (1 * 2 ^ min (rd (rd_L2 l1 x27_2) 1).toNat 64)) = ji38 := hji38
                   have hji38z : (rd (rd_L2 l1 x27_2) 1) ≤ 64 → (IntKind.i64.wrap (1 * 2 ^ (rd (rd_L2 l1 x27_2) 1).toNat)) = ji38 := shl_small hji38
                   have hji38u : (IntKind.i64.wrap (2 ^ min (rd (rd_L2 l1 x27_2) 1).toNat 64)) = ji38 := by have h_ := hji38_; rw [Int.one_mul] at h_; exact h_
                   have hji38v : (rd (rd_L2 l1 x27_2) 1) ≤ 64 → (IntKind.i64.wrap (2 ^ (rd (rd_L2 l1 x27_2) 1).toNat)) = ji38 := fun hle_ => by have h_ := hji38z hle_; rw [Int.one_mul] at h_; exact h_
                   have hji38y : (wrap64 (1 * 2 ^ min (rd (rd_L2 l1 x27_2) 1).toNat 64)) = ji38 := (i64_w _).symm.trans hji38_
                   have hji38x : (rd (rd_L2 l1 x27_2) 1) ≤ 64 → (wrap64 (1 * 2 ^ (rd (rd_L2 l1 x27_2) 1).toNat)) = ji38 := fun h_ => (i64_w _).symm.trans (hji38z h_)
                   obtain ⟨y419, hy419⟩ : ∃ y_ : List Int, y_ = ((rd_L2 x6_2 0).set ((rd (rd_L2 l1 x27_2) 0) : Int).toNat (Go.bits .or .i64 (rd (rd_L2 x6_2 0) (rd (rd_L2 l1 x27_2) 0)) (ji38))) := ⟨_, rfl⟩
                   replace H : (impl_EndsSpace.l0 k2 y398 (x6_2.set (0 : Int).toNat y419) l1 (l1.length : Int) (wrap64 (x27_2 + 1))) = some (r1, r2, r3) := by (rw [hy419]; with_reducible exact H)
                   have Ny419 := Aside0.mk hy419
                   clear hy419
                   obtain ⟨y421, hy421⟩ : ∃ y_ : List (List Int), y_ = (x6_2.set (0 : Int).toNat y419) := ⟨_, rfl⟩
                   replace H : (impl_EndsSpace.l0 k2 y398 y421 l1 (l1.length : Int) (wrap64 (x27_2 + 1))) = some (r1, r2, r3) := by (rw [hy421]; with_reducible exact H)
                   have Ny421 := Aside0.mk hy421
                   clear hy421
                   have H' := Aside0.mk H
                   clear H
                   have p414 : 0 ≤ (x27_2 : Int) := of_decide_eq_true (by (with_reducible assumption))
                   have q414 : x27_2 < (l1.length : Int) := of_decide_eq_true (by (with_reducible assumption))
                   obtain ⟨ad414, A414_0, c414_0, e414, hx414_0, hl414_0, hi414_0⟩ := at_L2 HR1.out x27_2 p414 q414
                   cases e414
                   replace hx414_0 := (HB.out.cell (World.block_lt_of_cell? w _ hx414_0)).trans hx414_0
                   have HR414_0 := Aside0.mk hi414_0
                   have HC414_0 := Aside0.mk hl414_0
                   clear hi414_0 hl414_0
                   replace p414 := eq_true p414
                   replace q414 := eq_true q414
                   try go_wp2
                   have n0_ := Aside0.mk (Kd.R_drew HO_2.out)
                   have n1_ := Aside0.mk (Kd.S_drew HO_6.out)
                   have n2_ := Aside0.mk (blk_drew BK401.out)
                   have n3_ := Aside0.mk (below_drew1 HB.out)
                   clear HO_2
                   clear HO_6
                   clear BK401
                   clear HB
                   have HO_2 := n0_
                   have HO_6 := n1_
                   have BK401 := n2_
                   have HB := n3_
                   clear n0_ n1_ n2_ n3_
                   have p415 : 0 ≤ (0 : Int) := (by omega)
                   have q415 : 0 < (x6_2.length : Int) := of_decide_eq_true (by (with_reducible assumption))
                   obtain ⟨ad415, A415_0, c415_0, e415, hx415_0, hl415_0, hi415_0⟩ := at_L2 (Kd.S_reads' HO_6.out).2.2 0 p415 q415
                   obtain rfl : (⟨go20, 0, none⟩ : Addr) = ad415 := (by injection e415)
                   obtain ⟨ce415, hce415, hMe415, hcc415⟩ := Kd.S_get HO_6.out [] 0 p415 (by exact q415)
                   obtain ⟨ve415_0, rfl, ge415_0⟩ := hMe415
                   have hv415_0 := hcc415 0 _ rfl
                   rw [Nat.add_zero, show ((Kd.slice 3 (Kd.int .i64))).sz = 1 from rfl, Nat.mul_one] at hv415_0
                   replace hv415_0 := Option.some.inj (hv415_0.symm.trans hx415_0)
                   rw [hv415_0] at ge415_0
                   have HL415_0 := Aside0.mk (show Kd.R (Kd.int .i64) 3 _ _ _ _ (rd_L2 x6_2 0) from ge415_0)
                   clear hv415_0 ge415_0
                   have HX415_0 := Aside0.mk hx415_0
                   clear hcc415 hce415
                   (simp only [add_plain] at hx415_0)
                   have qi415 : (0 < x6_2.length) = True := eq_true (by omega)
                   (try rw [show ((0 : Int)).toNat = 0 from rfl] at hx415_0)
                   skip
                   have HR415_0 := Aside0.mk hi415_0
                   have HC415_0 := Aside0.mk hl415_0
                   clear hi415_0 hl415_0
                   replace p415 := eq_true p415
                   replace q415 := eq_true q415
                   have p416 : 0 ≤ (0 : Int) := (by omega)
                   have q416 : 0 < ((rd_L2 l1 x27_2).length : Int) := of_decide_eq_true (by (with_reducible assumption))
                   obtain ⟨ad416, e416, hx416_0⟩ := Kd.at_int HR414_0.out 0 p416 q416
                   have hw416_0 := hx416_0
                   (try rw [show ((0 : Int)).toNat = 0 from rfl] at hw416_0)
                   skip
                   (try rw [Addr.add_zero'] at hw416_0)
                   cases e416
                   have qi416 : (0 < (rd_L2 l1 x27_2).length) = True := eq_true (by omega)
                   (try rw [show ((0 : Int)).toNat = 0 from rfl] at hx416_0)
                   (try rw [Addr.add_zero'] at hx416_0)
                   replace hx416_0 := (HB.out.cell (World.block_lt_of_cell? w _ hx416_0)).trans hx416_0
                   replace p416 := eq_true p416
                   replace q416 := eq_true q416
                   have p417 : 0 ≤ ((rd (rd_L2 l1 x27_2) 0) : Int) := of_decide_eq_true (by (with_reducible assumption))
                   have q417 : (rd (rd_L2 l1 x27_2) 0) < ((rd_L2 x6_2 0).length : Int) := of_decide_eq_true (by (with_reducible assumption))
                   obtain ⟨ad417, e417, hx417_0⟩ := Kd.at_int (by repeat ((with_reducible exact HR415_0.out))) (rd (rd_L2 l1 x27_2) 0) p417 q417
                   cases e417
                   replace p417 := eq_true p417
                   replace q417 := eq_true q417
                   have p418 : 0 ≤ (1 : Int) := (by omega)
                   have q418 : 1 < ((rd_L2 l1 x27_2).length : Int) := of_decide_eq_true (by (with_reducible assumption))
                   obtain ⟨ad418, e418, hx418_0⟩ := Kd.at_int HR414_0.out 1 p418 q418
                   have hw418_0 := hx418_0
                   (try rw [show ((1 : Int)).toNat = 1 from rfl] at hw418_0)
                   skip
                   (try simp only [Nat.reduceMul, Nat.reduceEqDiff, Go.Addr.add, ↓reduceIte] at hw418_0)
                   obtain rfl : ad416 = ad418 := (by injection e418)
                   (try simp only [show (1 : Int).toNat = 1 from rfl, Nat.reduceMul, Nat.reduceEqDiff, Go.Addr.add, ↓reduceIte] at hx418_0)
                   have qi418 : (1 < (rd_L2 l1 x27_2).length) = True := eq_true (by omega)
                   skip
                   replace hx418_0 := (HB.out.cell (World.block_lt_of_cell? w _ hx418_0)).trans hx418_0
                   replace p418 := eq_true p418
                   replace q418 := eq_true q418
                   have p39 : 0 ≤ ((rd (rd_L2 l1 x27_2) 0) : Int) := of_decide_eq_true (by (with_reducible assumption))
                   have q39 : ((rd (rd_L2 l1 x27_2) 0) : Int) < (((rd_L2 x6_2 0).length : Int) : Int) := of_decide_eq_true (by (with_reducible assumption))
                   obtain ⟨go39, co39, eo39, gb39, gl39, cl39, HG39⟩ := Kd.R_form HL415_0.out (by omega)
                   (cases eo39)
                   have GB39 := Aside0.mk gb39
                   have GG39 := Aside0.mk HG39
                   clear gb39 gl39 HG39
                   (simp only [add_plain] at hx417_0)
                   obtain ⟨hx39_0, hf39_0⟩ := Kd.R_celln 0 HL415_0.out ((rd (rd_L2 l1 x27_2) 0) : Int) p39 q39
                   replace p39 := eq_true p39
                   replace q39 := eq_true q39
                   have hq41 : (0 : Int) < (x6_2.length : Int) := (by have h_ : (0 : Int) < ((x6_2.length : Int) : Int) := of_decide_eq_true (by (with_reducible assumption)); exact h_)
                   obtain ⟨oki41, ce41, hcl41, hM41, hcc41, hok41, hbk41⟩ := Kd.S_borrow HO_6.out [] (0 : Int) (by omega) hq41
                   obtain ⟨ve41_0, rfl, ge41_0⟩ := hM41
                   have hv41 := hcc41 0 _ rfl
                   rw [Nat.add_zero, show ((Kd.slice 3 (Kd.int .i64))).sz = 1 from rfl, Nat.mul_one] at hv41
                   replace hv41 := Option.some.inj (hv41.symm.trans HX415_0.out)
                   subst hv41
                   clear hcc41 hcl41
                   replace ge41_0 := (show Kd.R (Kd.int .i64) 3 _ _ _ _ (rd_L2 x6_2 0) from ge41_0)
                   have HP41 := Kd.R_putg ge41_0 ((rd (rd_L2 l1 x27_2) 0) : Int) (Go.bits .or .i64 (rd (rd_L2 x6_2 0) (rd (rd_L2 l1 x27_2) 0)) (ji38))
                   rw [← Ny419.out] at HP41
                   have HS41 := hbk41 HP41.2 (fun k_ e_ => by injection e_ with e_; subst e_; exact ge41_0.1 _ rfl) (x' := y419) (Kd.M_row HP41.1)
                   rw [← Ny421.out] at HS41
                   have HQ41 := Aside0.mk HS41
                   clear HP41 HS41 hbk41 hok41
                   refine start_ (n := 13) (S := fun w' => w'.cell? ⟨go20, 0, none⟩ = some (.slice (some ⟨go39, 0, none⟩) (rd_L2 x6_2 0).length c415_0) ∧ w'.cell? ad416 = some (.int .i64 (rd (rd_L2 l1 x27_2) 0)) ∧ w'.cell? ⟨go39, ((rd (rd_L2 l1 x27_2) 0)).toNat, none⟩ = some (.int .i64 (rd (rd_L2 x6_2 0) (rd (rd_L2 l1 x27_2) 0))) ∧ w'.cell? ⟨ad416.block, ad416.off + 1, none⟩ = some (.int .i64 (rd (rd_L2 l1 x27_2) 1))) (ds := [12]) #[false, false, false, false, false, false, false, false, false, false, false, false, false] (by kernel_rfl) rfl rfl ⟨hx415_0, ((HB.out.cell (World.block_lt_of_cell? w _ hw416_0)).trans hw416_0), hx417_0, ((HB.out.cell (World.block_lt_of_cell? w _ hw418_0)).trans hw418_0)⟩ (fun hHeld => ?_); refine with_tabW impl_EndsSpace.tab7 impl_EndsSpace.bits7 (fun HT_ HW_ => ?_)
                   generalize wr.drew = w40 at HO_2 HO_6 BK401 HB GG39 HL415_0 HQ41 HR415_0 HX415_0 hf39_0 hx39_0 hx415_0 hx416_0 hx417_0 hx418_0 hHeld ⊢
                   refine pure_ (i := 1) (N := some 32) (v := ?_) (a' := ?_) #[false, true, false, false, false, false, false, false, false, false, false, false, false] rfl rfl (any_of HT_.out (by kernel_rfl)) (fun _ _ _ h => h) (Or.inl ⟨by rfl, ?_⟩) ?_ ?_
                   rotate_left
                   ·intro w'
                    go_simp
                    with_reducible rfl
                   rotate_left
                   ·simp only [Act.put, List.setIfInBounds_toArray, List.set_cons_zero, List.set_cons_succ, i64_w, i32_w]
                    rfl
                   refine pure_ (i := 2) (N := some 33) (v := ?_) (a' := ?_) #[false, true, true, false, false, false, false, false, false, false, false, false, false] rfl rfl (any_of HT_.out (by kernel_rfl)) (fun _ _ _ h => h) (Or.inl ⟨by rfl, ?_⟩) ?_ ?_
                   rotate_left
                   ·intro w'
                    go_simp
                    with_reducible rfl
                   rotate_left
                   ·simp only [Act.put, List.setIfInBounds_toArray, List.set_cons_zero, List.set_cons_succ, i64_w, i32_w]
                    rfl
                   refine pure_ (i := 6) (N := some 37) (v := ?_) (a' := ?_) #[false, true, true, false, false, false, true, false, false, false, false, false, false] rfl rfl (any_of HT_.out (by kernel_rfl)) (fun _ _ _ h => h) (Or.inl ⟨by rfl, ?_⟩) ?_ ?_
                   rotate_left
                   ·intro w'
                    go_simp
                    with_reducible rfl
                   rotate_left
                   ·simp only [Act.put, List.setIfInBounds_toArray, List.set_cons_zero, List.set_cons_succ, i64_w, i32_w]
                    rfl
                   refine pure_ (i := 7) (N := some 38) (v := ?_) (a' := ?_) #[false, true, true, false, false, false, true, true, false, false, false, false, false] rfl rfl (any_of HT_.out (by kernel_rfl)) (fun _ _ _ h => h) (Or.inl ⟨by rfl, ?_⟩) ?_ ?_
                   rotate_left
                   ·intro w'
                    go_simp
                    with_reducible rfl
                   rotate_left
                   ·simp only [Act.put, List.setIfInBounds_toArray, List.set_cons_zero, List.set_cons_succ, i64_w, i32_w]
                    rfl
                   refine take_ (i := 0) (N := some 31) (v := ?_) (a' := ?_) #[true, true, true, false, false, false, true, true, false, false, false, false, false] rfl rfl (take_ofW HT_.out HW_.out (by kernel_rfl)) (fun _ _ _ h => h) (Or.inl ⟨by rfl, ?_⟩) hHeld ?_ ?_
                   rotate_left
                   ·rintro w' ⟨s0, s1, s2, s3⟩
                    go_simp
                    with_reducible rfl
                   rotate_left
                   ·simp only [Act.put, List.setIfInBounds_toArray, List.set_cons_zero, List.set_cons_succ, i64_w, i32_w]
                    rfl
                   refine take_ (i := 3) (N := some 34) (v := ?_) (a' := ?_) #[true, true, true, true, false, false, true, true, false, false, false, false, false] rfl rfl (take_ofW HT_.out HW_.out (by kernel_rfl)) (fun _ _ _ h => h) (Or.inl ⟨by rfl, ?_⟩) hHeld ?_ ?_
                   rotate_left
                   ·rintro w' ⟨s0, s1, s2, s3⟩
                    go_simp
                    with_reducible rfl
                   rotate_left
                   ·simp only [Act.put, List.setIfInBounds_toArray, List.set_cons_zero, List.set_cons_succ, i64_w, i32_w]
                    rfl
                   refine pure_ (i := 4) (N := some 35) (v := ?_) (a' := ?_) #[true, true, true, true, true, false, true, true, false, false, false, false, false] rfl rfl (any_of HT_.out (by kernel_rfl)) (fun _ _ _ h => h) (Or.inl ⟨by rfl, ?_⟩) ?_ ?_
                   rotate_left
                   ·intro w'
                    go_simp
                    with_reducible rfl
                   rotate_left
                   ·simp only [Act.put, List.setIfInBounds_toArray, List.set_cons_zero, List.set_cons_succ, i64_w, i32_w]
                    rfl
                   refine take_ (i := 5) (N := some 36) (v := ?_) (a' := ?_) #[true, true, true, true, true, true, true, true, false, false, false, false, false] rfl rfl (take_ofW HT_.out HW_.out (by kernel_rfl)) (fun _ _ _ h => h) (Or.inl ⟨by rfl, ?_⟩) hHeld ?_ ?_
                   rotate_left
                   ·rintro w' ⟨s0, s1, s2, s3⟩
                    go_simp
                    with_reducible rfl
                   rotate_left
                   ·simp only [Act.put, List.setIfInBounds_toArray, List.set_cons_zero, List.set_cons_succ, i64_w, i32_w]
                    rfl
                   refine take_ (i := 8) (N := some 39) (v := ?_) (a' := ?_) #[true, true, true, true, true, true, true, true, true, false, false, false, false] rfl rfl (take_ofW HT_.out HW_.out (by kernel_rfl)) (fun _ _ _ h => h) (Or.inl ⟨by rfl, ?_⟩) hHeld ?_ ?_
                   rotate_left
                   ·rintro w' ⟨s0, s1, s2, s3⟩
                    go_simp
                    with_reducible rfl
                   rotate_left
                   ·simp only [Act.put, List.setIfInBounds_toArray, List.set_cons_zero, List.set_cons_succ, i64_w, i32_w]
                    rfl
                   refine pure_ (i := 9) (N := some 40) (v := ?_) (a' := ?_) #[true, true, true, true, true, true, true, true, true, true, false, false, false] rfl rfl (any_of HT_.out (by kernel_rfl)) (fun _ _ _ h => h) (Or.inl ⟨by rfl, ?_⟩) ?_ ?_
                   rotate_left
                   ·intro w'
                    go_simp
                    with_reducible rfl
                   rotate_left
                   ·simp only [Act.put, List.setIfInBounds_toArray, List.set_cons_zero, List.set_cons_succ, i64_w, i32_w]
                    rfl
                   refine pure_ (i := 10) (N := some 41) (v := ?_) (a' := ?_) #[true, true, true, true, true, true, true, true, true, true, true, false, false] rfl rfl (any_of HT_.out (by kernel_rfl)) (fun _ _ _ h => h) (Or.inl ⟨by rfl, ?_⟩) ?_ ?_
                   rotate_left
                   ·intro w'
                    go_simp
                    with_reducible rfl
                   rotate_left
                   ·simp only [Act.put, List.setIfInBounds_toArray, List.set_cons_zero, List.set_cons_succ, i64_w, i32_w]
                    rfl
                   refine pure_ (i := 11) (N := some 42) (v := ?_) (a' := ?_) #[true, true, true, true, true, true, true, true, true, true, true, true, false] rfl rfl (any_of HT_.out (by kernel_rfl)) (fun _ _ _ h => h) (Or.inl ⟨by rfl, ?_⟩) ?_ ?_
                   rotate_left
                   ·intro w'
                    go_simp
                    with_reducible rfl
                   rotate_left
                   ·simp only [Act.put, List.setIfInBounds_toArray, List.set_cons_zero, List.set_cons_succ, i64_w, i32_w]
                    rfl
                   refine last_ (i := 12) (N := none) #[true, true, true, true, true, true, true, true, true, true, true, true, true] rfl rfl (one_of HT_.out (by kernel_rfl)) (by decide) (fun K hK => ?_)
                   refine skip_ (w1 := ?_) (by rfl) rfl ?_ ?_
                   rotate_left
                   ·go_simp
                    rfl
                   refine hK.out _ _ ?_
                   clear hK K
                   refine done_ (done_of HT_.out (by kernel_rfl)) ?_
                   try go_wp2
                   skip
                   go_roundg k2
                   case measure => have := HJ2.out; have := HK2.out; omega
                   case rel => exact ⟨(y421), (wrap64 (x27_2 + 1)), (by rfl), H', ⟨by have := HJ2.out; have := HK2.out; omega⟩, ⟨by (with_reducible repeat (apply Kd.R_drew)); exact Kd.R_mono (Kd.R_far (p := ⟨go39, ((rd (rd_L2 l1 x27_2) 0) : Int).toNat, none⟩) (Kd.R_far1 HO_2.out rfl ((HL415_0.out.1 _ rfl).1)) (fun _ hk => hk.2) (.int .i64 (Go.bits .or .i64 (rd (rd_L2 x6_2 0) (rd (rd_L2 l1 x27_2) 0)) (ji38)))) (fun _ hk => trivial)⟩, ⟨by (try simp only [hl6_2]); (with_reducible repeat (apply Kd.S_drew)); exact HQ41.out⟩, ⟨by (with_reducible repeat (refine blk_drew ?_)); refine blk_far ?_ (by have h_ := Kd.R_ne HL415_0.out BK401.out (by decide); intro e_; exact h_ (by rw [e_]; rfl)) _; (with_reducible repeat (refine blk_drew ?_)); exact BK401.out⟩, ⟨by repeat ((with_reducible first | exact HB.out | refine below_set ?_ GB39.out))⟩⟩
                  ·rw [if_neg c37] at H
                   exact absurd H (by simp)
                 ·rw [if_neg c36] at H
                  exact absurd H (by simp)
                ·rw [if_neg c35] at H
                 exact absurd H (by simp)
               ·rw [if_neg c34] at H
                exact absurd H (by simp)
              ·rw [if_neg c33] at H
               exact absurd H (by simp)
             ·rw [if_neg c32] at H
              exact absurd H (by simp)
            ·rw [if_neg c31] at H
             exact absurd H (by simp)
           ·rw [if_neg c30] at H
            exact absurd H (by simp)
          ·rw [if_neg c29] at H
           have c29b0 : decide (x27_2 < (l1.length : Int)) = false := decide_eq_false c29
           skip
           clear c29
           by_cases c43 : 0 < (y398.length : Int)
           ·rw [if_pos c43] at H
            have c43b0 : decide (0 < (y398.length : Int)) = true := decide_eq_true c43
            have c43b1 : decide (0 < y398.length) = true := decide_eq_true (by omega)
            clear c43
            have H' := Aside0.mk H
            clear H
            have p422 : 0 ≤ (0 : Int) := (by omega)
            have q422 : 0 < (y398.length : Int) := of_decide_eq_true (by (with_reducible assumption))
            obtain ⟨ad422, e422, hx422_0⟩ := Kd.at_int (Kd.R_reads' HO_2.out).2.2 0 p422 q422
            obtain rfl : ad406 = ad422 := (by injection e422)
            have qi422 : (0 < y398.length) = True := eq_true (by omega)
            (try rw [show ((0 : Int)).toNat = 0 from rfl] at hx422_0)
            (try rw [Addr.add_zero'] at hx422_0)
            replace p422 := eq_true p422
            replace q422 := eq_true q422
            go_wp2
            go_loopg [45] k2 (fun kq v45 w' => ∃ (x6_3 : List (List Int)) (x45_3 : Int), v45 = .int .i64 x45_3 ∧ Aside0 (impl_EndsSpace.l1 kq y398 x6_3 (rd y398 0) x45_3 = some (r1, r2, r3)) ∧ Aside0 (kq ≤ k2) ∧ Aside0 (Kd.R (Kd.int .i64) 3 w' w.heap.size (fun _ => True) (.slice (some ad406) y398.length co21) y398) ∧ Aside0 (Kd.S (Kd.slice 3 (Kd.int .i64)) 22 w' w.heap.size (fun k_ => some k_ ≠ ((.slice (some ad406) y398.length co21) : Value).ownBlock) (.slice (some ⟨go20, 0, none⟩) x6_2.length co20) x6_3) ∧ Aside0 (w'.heap[gb401]? = some (.cells #[.int .i64 0, (.slice none 0 0)] 28 (0, 0))) ∧ Aside0 (Below w.heap.size w w'))
            case atStart => exact ⟨(x6_2), (0), (by rfl), H', ⟨Nat.le_refl _⟩, ⟨by (with_reducible repeat (apply Kd.R_drew)); exact HO_2.out⟩, ⟨by (with_reducible repeat (apply Kd.S_drew)); exact HO_6.out⟩, ⟨by (with_reducible repeat (refine blk_drew ?_)); exact BK401.out⟩, ⟨by repeat ((with_reducible exact HB.out))⟩⟩
            case round =>
             clear H'
             try clear c1
             try clear c2
             try clear p2
             try clear q2
             try clear hx2
             try clear qi2
             try clear hf2
             try clear c3
             try clear p3
             try clear q3
             try clear hx3
             try clear hf3
             try clear c4
             try clear p4
             try clear q4
             try clear hx4
             try clear qi4
             try clear c5
             try clear p6
             try clear c7
             try clear c7b0
             try clear c7b1
             try clear c9
             try clear c14
             try clear c16
             try clear c16b0
             try clear c16b1
             try clear c17
             try clear c17b0
             try clear c17b1
             try clear c18
             try clear c18b0
             try clear c18b1
             try clear c19
             try clear c19b0
             try clear c19b1
             try clear c20
             try clear p20
             try clear q20
             try clear hx20
             try clear qi20
             try clear hf20
             try clear c24
             try clear c26
             try clear hx26
             try clear hf26
             try clear c29
             try clear c29b0
             try clear c30
             try clear c30b0
             try clear c31
             try clear c31b0
             try clear c32
             try clear c32b0
             try clear c32b1
             try clear c33
             try clear c33b0
             try clear c33b1
             try clear c34
             try clear c34b0
             try clear c35
             try clear c35b0
             try clear c36
             try clear c36b0
             try clear c36b1
             try clear c37
             try clear c37b0
             try clear c37b1
             try clear p39
             try clear q39
             try clear hx39
             try clear hf39
             try clear p40
             try clear q40
             try clear hx40
             try clear qi40
             try clear c41
             try clear p41
             try clear q41
             try clear hx41
             try clear qi41
             try clear p42
             try clear q42
             try clear hx42
             try clear qi42
             try clear c43
             try clear c43b0
             try clear c43b1
             try clear hcz15_0
             try clear hcz15_1
             try clear hfz15_0
             try clear hfz15_1
             try clear hx20_0
             try clear hx26_0
             try clear hx39_0
             try clear hx402_0
             try clear hx404_0
             try clear hx406_0
             try clear hx414_0
             try clear hx415_0
             try clear hx416_0
             try clear hx417_0
             try clear hx418_0
             try clear hx422_0
             try clear p2
             try clear p20
             try clear p39
             try clear p4
             try clear p402
             try clear p404
             try clear p406
             try clear p414
             try clear p415
             try clear p416
             try clear p417
             try clear p418
             try clear p422
             try clear q2
             try clear q20
             try clear q39
             try clear q4
             try clear q402
             try clear q404
             try clear q406
             try clear q414
             try clear q415
             try clear q416
             try clear q417
             try clear q418
             try clear q422
             obtain ⟨x6_3, x45_3, rfl, HA, HK3, HO_2, HO_6, BK401, HB⟩ := hrel
             have hl6_3 := (Kd.S_reads' HO_6.out).1
             rw [hl6_3] at HO_6
             skip
             skip
             skip
             cases gk with
             | zero => exact absurd HA.out (by simp [impl_EndsSpace.l1])
             | succ k3 =>
              have H := HA.out
              clear HA
              simp only [impl_EndsSpace.l1] at H
              by_cases c44 : x45_3 < (rd y398 0)
              ·rw [if_pos c44] at H
               have c44b0 : decide (x45_3 < (rd y398 0)) = true := decide_eq_true c44
               clear c44
               by_cases c45 : 0 < (y398.length : Int)
               ·rw [if_pos c45] at H
                have c45b0 : decide (0 < (y398.length : Int)) = true := decide_eq_true c45
                have c45b1 : decide (0 < y398.length) = true := decide_eq_true (by omega)
                clear c45
                have H' := Aside0.mk H
                clear H
                have p423 : 0 ≤ (0 : Int) := (by omega)
                have q423 : 0 < (y398.length : Int) := of_decide_eq_true (by (with_reducible assumption))
                obtain ⟨ad423, e423, hx423_0⟩ := Kd.at_int (Kd.R_reads' HO_2.out).2.2 0 p423 q423
                obtain rfl : ad406 = ad423 := (by injection e423)
                have qi423 : (0 < y398.length) = True := eq_true (by omega)
                (try rw [show ((0 : Int)).toNat = 0 from rfl] at hx423_0)
                (try rw [Addr.add_zero'] at hx423_0)
                replace p423 := eq_true p423
                replace q423 := eq_true q423
                go_wp2
                go_loopg [48] k3 (fun kq v48 w' => ∃ (x6_4 : List (List Int)) (x48_4 : Int), v48 = .int .i64 x48_4 ∧ Aside0 (impl_EndsSpace.l2 kq y398 x6_4 (rd y398 0) x45_3 (rd y398 0) x48_4 = some (r1, r2, r3)) ∧ Aside0 (kq ≤ k3) ∧ Aside0 (Kd.R (Kd.int .i64) 3 w' w.heap.size (fun _ => True) (.slice (some ad406) y398.length co21) y398) ∧ Aside0 (Kd.S (Kd.slice 3 (Kd.int .i64)) 22 w' w.heap.size (fun k_ => some k_ ≠ ((.slice (some ad406) y398.length co21) : Value).ownBlock) (.slice (some ⟨go20, 0, none⟩) x6_3.length co20) x6_4) ∧ Aside0 (w'.heap[gb401]? = some (.cells #[.int .i64 0, (.slice none 0 0)] 28 (0, 0))) ∧ Aside0 (Below w.heap.size w w'))
                case atStart => exact ⟨(x6_3), (0), (by rfl), H', ⟨Nat.le_refl _⟩, ⟨by (with_reducible repeat (apply Kd.R_drew)); exact HO_2.out⟩, ⟨by (with_reducible repeat (apply Kd.S_drew)); exact HO_6.out⟩, ⟨by (with_reducible repeat (refine blk_drew ?_)); exact BK401.out⟩, ⟨by repeat ((with_reducible exact HB.out))⟩⟩
                case round =>
                 clear H'
                 try clear c1
                 try clear c2
                 try clear p2
                 try clear q2
                 try clear hx2
                 try clear qi2
                 try clear hf2
                 try clear c3
                 try clear p3
                 try clear q3
                 try clear hx3
                 try clear hf3
                 try clear c4
                 try clear p4
                 try clear q4
                 try clear hx4
                 try clear qi4
                 try clear c5
                 try clear p6
                 try clear c7
                 try clear c7b0
                 try clear c7b1
                 try clear c9
                 try clear c14
                 try clear c16
                 try clear c16b0
                 try clear c16b1
                 try clear c17
                 try clear c17b0
                 try clear c17b1
                 try clear c18
                 try clear c18b0
                 try clear c18b1
                 try clear c19
                 try clear c19b0
                 try clear c19b1
                 try clear c20
                 try clear p20
                 try clear q20
                 try clear hx20
                 try clear qi20
                 try clear hf20
                 try clear c24
                 try clear c26
                 try clear hx26
                 try clear hf26
                 try clear c29
                 try clear c29b0
                 try clear c30
                 try clear c30b0
                 try clear c31
                 try clear c31b0
                 try clear c32
                 try clear c32b0
                 try clear c32b1
                 try clear c33
                 try clear c33b0
                 try clear c33b1
                 try clear c34
                 try clear c34b0
                 try clear c35
                 try clear c35b0
                 try clear c36
                 try clear c36b0
                 try clear c36b1
                 try clear c37
                 try clear c37b0
                 try clear c37b1
                 try clear p39
                 try clear q39
                 try clear hx39
                 try clear hf39
                 try clear p40
                 try clear q40
                 try clear hx40
                 try clear qi40
                 try clear c41
                 try clear p41
                 try clear q41
                 try clear hx41
                 try clear qi41
                 try clear p42
                 try clear q42
                 try clear hx42
                 try clear qi42
                 try clear c43
                 try clear c43b0
                 try clear c43b1
                 try clear c44
                 try clear c44b0
                 try clear c45
                 try clear c45b0
                 try clear c45b1
                 try clear hcz15_0
                 try clear hcz15_1
                 try clear hfz15_0
                 try clear hfz15_1
                 try clear hx20_0
                 try clear hx26_0
                 try clear hx39_0
                 try clear hx402_0
                 try clear hx404_0
                 try clear hx406_0
                 try clear hx414_0
                 try clear hx415_0
                 try clear hx416_0
                 try clear hx417_0
                 try clear hx418_0
                 try clear hx422_0
                 try clear hx423_0
                 try clear p2
                 try clear p20
                 try clear p3
                 try clear p39
                 try clear p4
                 try clear p40
                 try clear p402
                 try clear p404
                 try clear p406
                 try clear p41
                 try clear p414
                 try clear p415
                 try clear p416
                 try clear p417
                 try clear p418
                 try clear p42
                 try clear p422
                 try clear p423
                 try clear p6
                 try clear q2
                 try clear q20
                 try clear q3
                 try clear q39
                 try clear q4
                 try clear q40
                 try clear q402
                 try clear q404
                 try clear q406
                 try clear q41
                 try clear q414
                 try clear q415
                 try clear q416
                 try clear q417
                 try clear q418
                 try clear q42
                 try clear q422
                 try clear q423
                 obtain ⟨x6_4, x48_4, rfl, HA, HK4, HO_2, HO_6, BK401, HB⟩ := hrel
                 have hl6_4 := (Kd.S_reads' HO_6.out).1
                 rw [hl6_4] at HO_6
                 skip
                 skip
                 skip
                 cases gk with
                 | zero => exact absurd HA.out (by simp [impl_EndsSpace.l2])
                 | succ k4 =>
                  have H := HA.out
                  clear HA
                  simp only [impl_EndsSpace.l2] at H
                  by_cases c46 : x48_4 < (rd y398 0)
                  ·rw [if_pos c46] at H
                   have c46b0 : decide (x48_4 < (rd y398 0)) = true := decide_eq_true c46
                   clear c46
                   by_cases c47 : 0 < (x6_4.length : Int)
                   ·rw [if_pos c47] at H
                    have c47b0 : decide (0 < (x6_4.length : Int)) = true := decide_eq_true c47
                    have c47b1 : decide (0 < x6_4.length) = true := decide_eq_true (by omega)
                    clear c47
                    by_cases c48 : 0 ≤ x48_4
                    ·rw [if_pos c48] at H
                     have c48b0 : decide (0 ≤ x48_4) = true := decide_eq_true c48
                     clear c48
                     by_cases c49 : x48_4 < ((rd_L2 x6_4 0).length : Int)
                     ·rw [if_pos c49] at H
                      have c49b0 : decide (x48_4 < ((rd_L2 x6_4 0).length : Int)) = true := decide_eq_true c49
                      clear c49
                      replace H := Option.bind_eq_some_iff.mp H
                      obtain ⟨t426, A500, H⟩ := H
                      replace H : (impl_EndsSpace.l3 k4 y398 x6_4 x48_4 (rd y398 0) x45_3 (rd y398 0) x48_4 t426 (t426.length : Int) 0) = some (r1, r2, r3) := H
                      have A50 := Aside0.mk A500
                      clear A500
                      have H' := Aside0.mk H
                      clear H
                      have p424 : 0 ≤ (0 : Int) := (by omega)
                      have q424 : 0 < (x6_4.length : Int) := of_decide_eq_true (by (with_reducible assumption))
                      obtain ⟨ad424, A424_0, c424_0, e424, hx424_0, hl424_0, hi424_0⟩ := at_L2 (Kd.S_reads' HO_6.out).2.2 0 p424 q424
                      obtain rfl : (⟨go20, 0, none⟩ : Addr) = ad424 := (by injection e424)
                      obtain ⟨ce424, hce424, hMe424, hcc424⟩ := Kd.S_get HO_6.out [] 0 p424 (by exact q424)
                      obtain ⟨ve424_0, rfl, ge424_0⟩ := hMe424
                      have hv424_0 := hcc424 0 _ rfl
                      rw [Nat.add_zero, show ((Kd.slice 3 (Kd.int .i64))).sz = 1 from rfl, Nat.mul_one] at hv424_0
                      replace hv424_0 := Option.some.inj (hv424_0.symm.trans hx424_0)
                      rw [hv424_0] at ge424_0
                      have HL424_0 := Aside0.mk (show Kd.R (Kd.int .i64) 3 _ _ _ _ (rd_L2 x6_4 0) from ge424_0)
                      clear hv424_0 ge424_0
                      have HX424_0 := Aside0.mk hx424_0
                      clear hcc424 hce424
                      (simp only [add_plain] at hx424_0)
                      have qi424 : (0 < x6_4.length) = True := eq_true (by omega)
                      (try rw [show ((0 : Int)).toNat = 0 from rfl] at hx424_0)
                      skip
                      have HR424_0 := Aside0.mk hi424_0
                      have HC424_0 := Aside0.mk hl424_0
                      clear hi424_0 hl424_0
                      replace p424 := eq_true p424
                      replace q424 := eq_true q424
                      have p425 : 0 ≤ (x48_4 : Int) := of_decide_eq_true (by (with_reducible assumption))
                      have q425 : x48_4 < ((rd_L2 x6_4 0).length : Int) := of_decide_eq_true (by (with_reducible assumption))
                      obtain ⟨ad425, e425, hx425_0⟩ := Kd.at_int (by repeat ((with_reducible exact HR424_0.out))) x48_4 p425 q425
                      cases e425
                      replace p425 := eq_true p425
                      replace q425 := eq_true q425
                      go_wp2_with (((with_reducible refine gate_callee (f := 56) rfl ?_); refine goesL_ (some 55) rfl rfl Try.func56 (by kernel_rfl) rfl #[.int .i64 (rd (rd_L2 x6_4 0) x48_4)] rfl (by (try simp only [List.map_toArray, List.map_cons, List.map_nil]); rfl) ?_; (with_reducible refine (impl_items.calls k4 (rd (rd_L2 x6_4 0) x48_4) t426 _ A50.out).mono ?_); rintro e w51 ⟨v427, rfl, ho0, hb⟩; refine ⟨_, rfl, ?_⟩; have n0_ := Aside0.mk (Kd.R_elder' (by (with_reducible repeat (apply Kd.R_drew)); exact HO_2.out) (Kd.R_base ho0) hb); have n1_ := Aside0.mk (Kd.S_elder' (by (with_reducible repeat (apply Kd.S_drew)); exact HO_6.out) (Kd.R_base ho0) hb); have n2_ := Aside0.mk (Kd.R_elder' (by (with_reducible repeat (apply Kd.R_drew)); exact HL424_0.out) (Kd.R_base ho0) hb); have n3_ := Aside0.mk (Kd.R_lower (Kd.R_new' (Kd.R_new' ho0 (Kd.R_lt (by (with_reducible repeat (apply Kd.R_drew)); exact HO_2.out))) (Kd.R_lt (by (with_reducible repeat (apply Kd.R_drew)); exact HL424_0.out))) (below_size (by repeat ((with_reducible exact HB.out))))); have n4_ := Aside0.mk (blk_below (g := gb401) (o := .cells #[.int .i64 0, .slice none 0 0] 28 (0, 0)) (by (with_reducible repeat (refine blk_drew ?_)); exact BK401.out) hb); have n5_ := Aside0.mk (Kd.C_below (by repeat ((with_reducible exact HR424_0.out))) hb); have n6_ := Aside0.mk (pw_cell_below hb HX424_0.out); have n7_ := Aside0.mk (below_step (by repeat ((with_reducible exact HB.out))) hb); clear HO_2; clear HO_6; clear HL424_0; clear BK401; clear HR424_0; clear HX424_0; clear HB; have HO_2 := n0_; have HO_6 := n1_; have HL424_0 := n2_; have HO428 := n3_; have BK401 := n4_; have HR424_0 := n5_; have HX424_0 := n6_; have HB := n7_; clear n0_ n1_ n2_ n3_ n4_ n5_ n6_ n7_; (try clear hb); (try clear ho0); obtain ⟨Ao52, co52, eo52⟩ := Kd.R_slice HO428.out; subst eo52))
                      go_loopg [57] k4 (fun kq v57 w' => ∃ (x6_5 : List (List Int)) (x57_5 : Int), v57 = .int .i64 x57_5 ∧ Aside0 (impl_EndsSpace.l3 kq y398 x6_5 x48_4 (rd y398 0) x45_3 (rd y398 0) x48_4 t426 (t426.length : Int) x57_5 = some (r1, r2, r3)) ∧ Aside0 (kq ≤ k4) ∧ Aside0 (Kd.R (Kd.int .i64) 3 w' w.heap.size (fun k_ => some k_ ≠ ((.slice Ao52 t426.length co52) : Value).ownBlock) (.slice (some ad406) y398.length co21) y398) ∧ Aside0 (Kd.S (Kd.slice 3 (Kd.int .i64)) 22 w' w.heap.size (fun k_ => some k_ ≠ ((.slice (some ad406) y398.length co21) : Value).ownBlock ∧ some k_ ≠ ((.slice Ao52 t426.length co52) : Value).ownBlock) (.slice (some ⟨go20, 0, none⟩) x6_4.length co20) x6_5) ∧ Aside0 (Kd.R (Kd.int .i64) 3 w' w.heap.size (fun k_ => some k_ ≠ ((.slice (some ad406) y398.length co21) : Value).ownBlock) (.slice Ao52 t426.length co52) t426) ∧ Aside0 (w'.heap[gb401]? = some (.cells #[.int .i64 0, (.slice none 0 0)] 28 (0, 0))) ∧ Aside0 (Below w.heap.size w w'))
                      case atStart => exact ⟨(x6_4), (0), (by rfl), H', ⟨Nat.le_refl _⟩, ⟨by (with_reducible repeat (apply Kd.R_drew)); exact Kd.R_mono HO_2.out (fun _ hk => hk.2)⟩, ⟨by (with_reducible repeat (apply Kd.S_drew)); exact HO_6.out⟩, ⟨by (with_reducible repeat (apply Kd.R_drew)); exact Kd.R_mono HO428.out (fun _ hk => hk.1.2)⟩, ⟨by (with_reducible repeat (refine blk_drew ?_)); exact BK401.out⟩, ⟨by repeat ((with_reducible exact HB.out))⟩⟩
                      case round =>
                       clear H'
                       try clear c1
                       try clear c2
                       try clear p2
                       try clear q2
                       try clear hx2
                       try clear qi2
                       try clear hf2
                       try clear c3
                       try clear p3
                       try clear q3
                       try clear hx3
                       try clear hf3
                       try clear c4
                       try clear p4
                       try clear q4
                       try clear hx4
                       try clear qi4
                       try clear c5
                       try clear p6
                       try clear c7
                       try clear c7b0
                       try clear c7b1
                       try clear c9
                       try clear c14
                       try clear c16
                       try clear c16b0
                       try clear c16b1
                       try clear c17
                       try clear c17b0
                       try clear c17b1
                       try clear c18
                       try clear c18b0
                       try clear c18b1
                       try clear c19
                       try clear c19b0
                       try clear c19b1
                       try clear c20
                       try clear p20
                       try clear q20
                       try clear hx20
                       try clear qi20
                       try clear hf20
                       try clear c24
                       try clear c26
                       try clear hx26
                       try clear hf26
                       try clear c29
                       try clear c29b0
                       try clear c30
                       try clear c30b0
                       try clear c31
                       try clear c31b0
                       try clear c32
                       try clear c32b0
                       try clear c32b1
                       try clear c33
                       try clear c33b0
                       try clear c33b1
                       try clear c34
                       try clear c34b0
                       try clear c35
                       try clear c35b0
                       try clear c36
                       try clear c36b0
                       try clear c36b1
                       try clear c37
                       try clear c37b0
                       try clear c37b1
                       try clear p39
                       try clear q39
                       try clear hx39
                       try clear hf39
                       try clear p40
                       try clear q40
                       try clear hx40
                       try clear qi40
                       try clear c41
                       try clear p41
                       try clear q41
                       try clear hx41
                       try clear qi41
                       try clear c42
                       try clear p42
                       try clear q42
                       try clear hx42
                       try clear qi42
                       try clear c43
                       try clear c43b0
                       try clear c43b1
                       try clear c44
                       try clear c44b0
                       try clear c45
                       try clear c45b0
                       try clear c45b1
                       try clear c46
                       try clear c46b0
                       try clear c47
                       try clear c47b0
                       try clear c47b1
                       try clear c48
                       try clear c48b0
                       try clear c49
                       try clear c49b0
                       try clear hcz15_0
                       try clear hcz15_1
                       try clear hfz15_0
                       try clear hfz15_1
                       try clear hx20_0
                       try clear hx26_0
                       try clear hx39_0
                       try clear hx402_0
                       try clear hx404_0
                       try clear hx406_0
                       try clear hx414_0
                       try clear hx415_0
                       try clear hx416_0
                       try clear hx417_0
                       try clear hx418_0
                       try clear hx422_0
                       try clear hx423_0
                       try clear hx424_0
                       try clear hx425_0
                       try clear p2
                       try clear p20
                       try clear p3
                       try clear p39
                       try clear p4
                       try clear p40
                       try clear p402
                       try clear p404
                       try clear p406
                       try clear p41
                       try clear p414
                       try clear p415
                       try clear p416
                       try clear p417
                       try clear p418
                       try clear p42
                       try clear p422
                       try clear p423
                       try clear p424
                       try clear p425
                       try clear p6
                       try clear q2
                       try clear q20
                       try clear q3
                       try clear q39
                       try clear q4
                       try clear q40
                       try clear q402
                       try clear q404
                       try clear q406
                       try clear q41
                       try clear q414
                       try clear q415
                       try clear q416
                       try clear q417
                       try clear q418
                       try clear q42
                       try clear q422
                       try clear q423
                       try clear q424
                       try clear q425
                       obtain ⟨x6_5, x57_5, rfl, HA, HK5, HO_2, HO_6, HO_55, BK401, HB⟩ := hrel
                       have hl6_5 := (Kd.S_reads' HO_6.out).1
                       rw [hl6_5] at HO_6
                       skip
                       skip
                       skip
                       skip
                       cases gk with
                       | zero => exact absurd HA.out (by simp [impl_EndsSpace.l3])
                       | succ k5 =>
                        have H := HA.out
                        clear HA
                        simp only [impl_EndsSpace.l3] at H
                        by_cases c53 : x57_5 < (t426.length : Int)
                        ·rw [if_pos c53] at H
                         have c53b0 : decide (x57_5 < (t426.length : Int)) = true := decide_eq_true c53
                         clear c53
                         by_cases c54 : 0 ≤ x57_5
                         ·rw [if_pos c54] at H
                          have c54b0 : decide (0 ≤ x57_5) = true := decide_eq_true c54
                          clear c54
                          by_cases c55 : x57_5 < (t426.length : Int)
                          ·rw [if_pos c55] at H
                           have c55b0 : decide (x57_5 < (t426.length : Int)) = true := decide_eq_true c55
                           clear c55
                           by_cases c56 : 0 < (x6_5.length : Int)
                           ·rw [if_pos c56] at H
                            have c56b0 : decide (0 < (x6_5.length : Int)) = true := decide_eq_true c56
                            have c56b1 : decide (0 < x6_5.length) = true := decide_eq_true (by omega)
                            clear c56
                            by_cases c57 : 0 ≤ x48_4
                            ·rw [if_pos c57] at H
                             have c57b0 : decide (0 ≤ x48_4) = true := decide_eq_true c57
                             clear c57
                             by_cases c58 : x48_4 < ((rd_L2 x6_5 0).length : Int)
                             ·rw [if_pos c58] at H
                              have c58b0 : decide (x48_4 < ((rd_L2 x6_5 0).length : Int)) = true := decide_eq_true c58
                              clear c58
                              by_cases c59 : 0 ≤ (rd t426 x57_5)
                              ·rw [if_pos c59] at H
                               have c59b0 : decide (0 ≤ (rd t426 x57_5)) = true := decide_eq_true c59
                               clear c59
                               by_cases c60 : (rd t426 x57_5) < ((rd_L2 x6_5 0).length : Int)
                               ·rw [if_pos c60] at H
                                have c60b0 : decide ((rd t426 x57_5) < ((rd_L2 x6_5 0).length : Int)) = true := decide_eq_true c60
                                clear c60
                                obtain ⟨y434, hy434⟩ : ∃ y_ : List Int, y_ = ((rd_L2 x6_5 0).set (x48_4 : Int).toNat (Go.bits .or .i64 (rd (rd_L2 x6_5 0) x48_4) (rd (rd_L2 x6_5 0) (rd t426 x57_5)))) := ⟨_, rfl⟩
                                replace H : (impl_EndsSpace.l3 k5 y398 (x6_5.set (0 : Int).toNat y434) x48_4 (rd y398 0) x45_3 (rd y398 0) x48_4 t426 (t426.length : Int) (wrap64 (x57_5 + 1))) = some (r1, r2, r3) := by (rw [hy434]; with_reducible exact H)
                                have Ny434 := Aside0.mk hy434
                                clear hy434
                                obtain ⟨y436, hy436⟩ : ∃ y_ : List (List Int), y_ = (x6_5.set (0 : Int).toNat y434) := ⟨_, rfl⟩
                                replace H : (impl_EndsSpace.l3 k5 y398 y436 x48_4 (rd y398 0) x45_3 (rd y398 0) x48_4 t426 (t426.length : Int) (wrap64 (x57_5 + 1))) = some (r1, r2, r3) := by (rw [hy436]; with_reducible exact H)
                                have Ny436 := Aside0.mk hy436
                                clear hy436
                                have H' := Aside0.mk H
                                clear H
                                have p429 : 0 ≤ (x57_5 : Int) := of_decide_eq_true (by (with_reducible assumption))
                                have q429 : x57_5 < (t426.length : Int) := of_decide_eq_true (by (with_reducible assumption))
                                obtain ⟨ad429, e429, hx429_0⟩ := Kd.at_int (Kd.R_reads' HO_55.out).2.2 x57_5 p429 q429
                                cases e429
                                replace p429 := eq_true p429
                                replace q429 := eq_true q429
                                try go_wp2
                                have n0_ := Aside0.mk (Kd.R_drew HO_2.out)
                                have n1_ := Aside0.mk (Kd.S_drew HO_6.out)
                                have n2_ := Aside0.mk (Kd.R_drew HO_55.out)
                                have n3_ := Aside0.mk (blk_drew BK401.out)
                                have n4_ := Aside0.mk (below_drew1 HB.out)
                                clear HO_2
                                clear HO_6
                                clear HO_55
                                clear BK401
                                clear HB
                                have HO_2 := n0_
                                have HO_6 := n1_
                                have HO_55 := n2_
                                have BK401 := n3_
                                have HB := n4_
                                clear n0_ n1_ n2_ n3_ n4_
                                have p430 : 0 ≤ (0 : Int) := (by omega)
                                have q430 : 0 < (x6_5.length : Int) := of_decide_eq_true (by (with_reducible assumption))
                                obtain ⟨ad430, A430_0, c430_0, e430, hx430_0, hl430_0, hi430_0⟩ := at_L2 (Kd.S_reads' HO_6.out).2.2 0 p430 q430
                                obtain rfl : (⟨go20, 0, none⟩ : Addr) = ad430 := (by injection e430)
                                obtain ⟨ce430, hce430, hMe430, hcc430⟩ := Kd.S_get HO_6.out [] 0 p430 (by exact q430)
                                obtain ⟨ve430_0, rfl, ge430_0⟩ := hMe430
                                have hv430_0 := hcc430 0 _ rfl
                                rw [Nat.add_zero, show ((Kd.slice 3 (Kd.int .i64))).sz = 1 from rfl, Nat.mul_one] at hv430_0
                                replace hv430_0 := Option.some.inj (hv430_0.symm.trans hx430_0)
                                rw [hv430_0] at ge430_0
                                have HL430_0 := Aside0.mk (show Kd.R (Kd.int .i64) 3 _ _ _ _ (rd_L2 x6_5 0) from ge430_0)
                                clear hv430_0 ge430_0
                                have HX430_0 := Aside0.mk hx430_0
                                clear hcc430 hce430
                                (simp only [add_plain] at hx430_0)
                                have qi430 : (0 < x6_5.length) = True := eq_true (by omega)
                                (try rw [show ((0 : Int)).toNat = 0 from rfl] at hx430_0)
                                skip
                                have HR430_0 := Aside0.mk hi430_0
                                have HC430_0 := Aside0.mk hl430_0
                                clear hi430_0 hl430_0
                                replace p430 := eq_true p430
                                replace q430 := eq_true q430
                                have p431 : 0 ≤ (x48_4 : Int) := of_decide_eq_true (by (with_reducible assumption))
                                have q431 : x48_4 < ((rd_L2 x6_5 0).length : Int) := of_decide_eq_true (by (with_reducible assumption))
                                obtain ⟨ad431, e431, hx431_0⟩ := Kd.at_int (by repeat ((with_reducible exact HR430_0.out))) x48_4 p431 q431
                                cases e431
                                replace p431 := eq_true p431
                                replace q431 := eq_true q431
                                have p432 : 0 ≤ (0 : Int) := (by omega)
                                have q432 : 0 < (x6_5.length : Int) := of_decide_eq_true (by (with_reducible assumption))
                                obtain ⟨ad432, A432_0, c432_0, e432, hx432_0, hl432_0, hi432_0⟩ := at_L2 (Kd.S_reads' HO_6.out).2.2 0 p432 q432
                                obtain rfl : (⟨go20, 0, none⟩ : Addr) = ad432 := (by injection e432)
                                obtain ⟨ce432, hce432, hMe432, hcc432⟩ := Kd.S_get HO_6.out [] 0 p432 (by exact q432)
                                obtain ⟨ve432_0, rfl, ge432_0⟩ := hMe432
                                have hv432_0 := hcc432 0 _ rfl
                                rw [Nat.add_zero, show ((Kd.slice 3 (Kd.int .i64))).sz = 1 from rfl, Nat.mul_one] at hv432_0
                                replace hv432_0 := Option.some.inj (hv432_0.symm.trans hx432_0)
                                rw [hv432_0] at ge432_0
                                have HL432_0 := Aside0.mk (show Kd.R (Kd.int .i64) 3 _ _ _ _ (rd_L2 x6_5 0) from ge432_0)
                                clear hv432_0 ge432_0
                                have HX432_0 := Aside0.mk hx432_0
                                clear hcc432 hce432
                                (simp only [add_plain] at hx432_0)
                                have qi432 : (0 < x6_5.length) = True := eq_true (by omega)
                                (try rw [show ((0 : Int)).toNat = 0 from rfl] at hx432_0)
                                skip
                                have HR432_0 := Aside0.mk hi432_0
                                have HC432_0 := Aside0.mk hl432_0
                                clear hi432_0 hl432_0
                                replace p432 := eq_true p432
                                replace q432 := eq_true q432
                                have ea_ := Option.some.inj (hx430_0.symm.trans hx432_0)
                                injection ea_ with ea_ en_ ec_
                                subst ea_
                                subst ec_
                                clear en_
                                have p433 : 0 ≤ ((rd t426 x57_5) : Int) := of_decide_eq_true (by (with_reducible assumption))
                                have q433 : (rd t426 x57_5) < ((rd_L2 x6_5 0).length : Int) := of_decide_eq_true (by (with_reducible assumption))
                                obtain ⟨ad433, e433, hx433_0⟩ := Kd.at_int (by repeat ((with_reducible exact HR432_0.out))) (rd t426 x57_5) p433 q433
                                cases e433
                                replace p433 := eq_true p433
                                replace q433 := eq_true q433
                                have p61 : 0 ≤ (x48_4 : Int) := of_decide_eq_true (by (with_reducible assumption))
                                have q61 : (x48_4 : Int) < (((rd_L2 x6_5 0).length : Int) : Int) := of_decide_eq_true (by (with_reducible assumption))
                                obtain ⟨go61, co61, eo61, gb61, gl61, cl61, HG61⟩ := Kd.R_form HL430_0.out (by omega)
                                (cases eo61)
                                have GB61 := Aside0.mk gb61
                                have GG61 := Aside0.mk HG61
                                clear gb61 gl61 HG61
                                (simp only [add_plain] at hx433_0)
                                (simp only [add_plain] at hx431_0)
                                obtain ⟨hx61_0, hf61_0⟩ := Kd.R_celln 0 HL430_0.out (x48_4 : Int) p61 q61
                                replace p61 := eq_true p61
                                replace q61 := eq_true q61
                                have hq63 : (0 : Int) < (x6_5.length : Int) := (by have h_ : (0 : Int) < ((x6_5.length : Int) : Int) := of_decide_eq_true (by (with_reducible assumption)); exact h_)
                                obtain ⟨oki63, ce63, hcl63, hM63, hcc63, hok63, hbk63⟩ := Kd.S_borrow HO_6.out [] (0 : Int) (by omega) hq63
                                obtain ⟨ve63_0, rfl, ge63_0⟩ := hM63
                                have hv63 := hcc63 0 _ rfl
                                rw [Nat.add_zero, show ((Kd.slice 3 (Kd.int .i64))).sz = 1 from rfl, Nat.mul_one] at hv63
                                replace hv63 := Option.some.inj (hv63.symm.trans HX430_0.out)
                                subst hv63
                                clear hcc63 hcl63
                                replace ge63_0 := (show Kd.R (Kd.int .i64) 3 _ _ _ _ (rd_L2 x6_5 0) from ge63_0)
                                have HP63 := Kd.R_putg ge63_0 (x48_4 : Int) (Go.bits .or .i64 (rd (rd_L2 x6_5 0) x48_4) (rd (rd_L2 x6_5 0) (rd t426 x57_5)))
                                rw [← Ny434.out] at HP63
                                have HS63 := hbk63 HP63.2 (fun k_ e_ => by injection e_ with e_; subst e_; exact ge63_0.1 _ rfl) (x' := y434) (Kd.M_row HP63.1)
                                rw [← Ny436.out] at HS63
                                have HQ63 := Aside0.mk HS63
                                clear HP63 HS63 hbk63 hok63
                                refine start_ (n := 11) (S := fun w' => w'.cell? ⟨go20, 0, none⟩ = some (.slice (some ⟨go61, 0, none⟩) (rd_L2 x6_5 0).length c430_0) ∧ w'.cell? ⟨go61, (x48_4).toNat, none⟩ = some (.int .i64 (rd (rd_L2 x6_5 0) x48_4)) ∧ w'.cell? ⟨go20, 0, none⟩ = some (.slice (some ⟨go61, 0, none⟩) (rd_L2 x6_5 0).length c430_0) ∧ w'.cell? ⟨go61, ((rd t426 x57_5)).toNat, none⟩ = some (.int .i64 (rd (rd_L2 x6_5 0) (rd t426 x57_5)))) (ds := [10]) #[false, false, false, false, false, false, false, false, false, false, false] (by kernel_rfl) rfl rfl ⟨hx430_0, hx431_0, hx432_0, hx433_0⟩ (fun hHeld => ?_); refine with_tabW impl_EndsSpace.tab17 impl_EndsSpace.bits17 (fun HT_ HW_ => ?_)
                                generalize wr.drew = w62 at HO_2 HO_6 HO_55 BK401 HB GG61 HL430_0 HL432_0 HQ63 HR430_0 HR432_0 HX430_0 HX432_0 hf61_0 hx430_0 hx431_0 hx432_0 hx433_0 hx61_0 hHeld ⊢
                                refine pure_ (i := 1) (N := some 62) (v := ?_) (a' := ?_) #[false, true, false, false, false, false, false, false, false, false, false] rfl rfl (any_of HT_.out (by kernel_rfl)) (fun _ _ _ h => h) (Or.inl ⟨by rfl, ?_⟩) ?_ ?_
                                rotate_left
                                ·intro w'
                                 go_simp
                                 with_reducible rfl
                                rotate_left
                                ·simp only [Act.put, List.setIfInBounds_toArray, List.set_cons_zero, List.set_cons_succ, i64_w, i32_w]
                                 rfl
                                refine pure_ (i := 5) (N := some 66) (v := ?_) (a' := ?_) #[false, true, false, false, false, true, false, false, false, false, false] rfl rfl (any_of HT_.out (by kernel_rfl)) (fun _ _ _ h => h) (Or.inl ⟨by rfl, ?_⟩) ?_ ?_
                                rotate_left
                                ·intro w'
                                 go_simp
                                 with_reducible rfl
                                rotate_left
                                ·simp only [Act.put, List.setIfInBounds_toArray, List.set_cons_zero, List.set_cons_succ, i64_w, i32_w]
                                 rfl
                                refine take_ (i := 0) (N := some 61) (v := ?_) (a' := ?_) #[true, true, false, false, false, true, false, false, false, false, false] rfl rfl (take_ofW HT_.out HW_.out (by kernel_rfl)) (fun _ _ _ h => h) (Or.inl ⟨by rfl, ?_⟩) hHeld ?_ ?_
                                rotate_left
                                ·rintro w' ⟨s0, s1, s2, s3⟩
                                 go_simp
                                 with_reducible rfl
                                rotate_left
                                ·simp only [Act.put, List.setIfInBounds_toArray, List.set_cons_zero, List.set_cons_succ, i64_w, i32_w]
                                 rfl
                                refine pure_ (i := 2) (N := some 63) (v := ?_) (a' := ?_) #[true, true, true, false, false, true, false, false, false, false, false] rfl rfl (any_of HT_.out (by kernel_rfl)) (fun _ _ _ h => h) (Or.inl ⟨by rfl, ?_⟩) ?_ ?_
                                rotate_left
                                ·intro w'
                                 go_simp
                                 with_reducible rfl
                                rotate_left
                                ·simp only [Act.put, List.setIfInBounds_toArray, List.set_cons_zero, List.set_cons_succ, i64_w, i32_w]
                                 rfl
                                refine take_ (i := 3) (N := some 64) (v := ?_) (a' := ?_) #[true, true, true, true, false, true, false, false, false, false, false] rfl rfl (take_ofW HT_.out HW_.out (by kernel_rfl)) (fun _ _ _ h => h) (Or.inl ⟨by rfl, ?_⟩) hHeld ?_ ?_
                                rotate_left
                                ·rintro w' ⟨s0, s1, s2, s3⟩
                                 go_simp
                                 with_reducible rfl
                                rotate_left
                                ·simp only [Act.put, List.setIfInBounds_toArray, List.set_cons_zero, List.set_cons_succ, i64_w, i32_w]
                                 rfl
                                refine take_ (i := 4) (N := some 65) (v := ?_) (a' := ?_) #[true, true, true, true, true, true, false, false, false, false, false] rfl rfl (take_ofW HT_.out HW_.out (by kernel_rfl)) (fun _ _ _ h => h) (Or.inl ⟨by rfl, ?_⟩) hHeld ?_ ?_
                                rotate_left
                                ·rintro w' ⟨s0, s1, s2, s3⟩
                                 go_simp
                                 with_reducible rfl
                                rotate_left
                                ·simp only [Act.put, List.setIfInBounds_toArray, List.set_cons_zero, List.set_cons_succ, i64_w, i32_w]
                                 rfl
                                refine pure_ (i := 6) (N := some 67) (v := ?_) (a' := ?_) #[true, true, true, true, true, true, true, false, false, false, false] rfl rfl (any_of HT_.out (by kernel_rfl)) (fun _ _ _ h => h) (Or.inl ⟨by rfl, ?_⟩) ?_ ?_
                                rotate_left
                                ·intro w'
                                 go_simp
                                 with_reducible rfl
                                rotate_left
                                ·simp only [Act.put, List.setIfInBounds_toArray, List.set_cons_zero, List.set_cons_succ, i64_w, i32_w]
                                 rfl
                                refine take_ (i := 7) (N := some 68) (v := ?_) (a' := ?_) #[true, true, true, true, true, true, true, true, false, false, false] rfl rfl (take_ofW HT_.out HW_.out (by kernel_rfl)) (fun _ _ _ h => h) (Or.inl ⟨by rfl, ?_⟩) hHeld ?_ ?_
                                rotate_left
                                ·rintro w' ⟨s0, s1, s2, s3⟩
                                 go_simp
                                 with_reducible rfl
                                rotate_left
                                ·simp only [Act.put, List.setIfInBounds_toArray, List.set_cons_zero, List.set_cons_succ, i64_w, i32_w]
                                 rfl
                                refine pure_ (i := 8) (N := some 69) (v := ?_) (a' := ?_) #[true, true, true, true, true, true, true, true, true, false, false] rfl rfl (any_of HT_.out (by kernel_rfl)) (fun _ _ _ h => h) (Or.inl ⟨by rfl, ?_⟩) ?_ ?_
                                rotate_left
                                ·intro w'
                                 go_simp
                                 with_reducible rfl
                                rotate_left
                                ·simp only [Act.put, List.setIfInBounds_toArray, List.set_cons_zero, List.set_cons_succ, i64_w, i32_w]
                                 rfl
                                refine pure_ (i := 9) (N := some 70) (v := ?_) (a' := ?_) #[true, true, true, true, true, true, true, true, true, true, false] rfl rfl (any_of HT_.out (by kernel_rfl)) (fun _ _ _ h => h) (Or.inl ⟨by rfl, ?_⟩) ?_ ?_
                                rotate_left
                                ·intro w'
                                 go_simp
                                 with_reducible rfl
                                rotate_left
                                ·simp only [Act.put, List.setIfInBounds_toArray, List.set_cons_zero, List.set_cons_succ, i64_w, i32_w]
                                 rfl
                                refine last_ (i := 10) (N := none) #[true, true, true, true, true, true, true, true, true, true, true] rfl rfl (one_of HT_.out (by kernel_rfl)) (by decide) (fun K hK => ?_)
                                refine skip_ (w1 := ?_) (by rfl) rfl ?_ ?_
                                rotate_left
                                ·go_simp
                                 rfl
                                refine hK.out _ _ ?_
                                clear hK K
                                refine done_ (done_of HT_.out (by kernel_rfl)) ?_
                                try go_wp2
                                skip
                                go_roundg k5
                                case measure => have := HJ2.out; have := HK2.out; have := HK3.out; have := HK4.out; have := HK5.out; omega
                                case rel => exact ⟨(y436), (wrap64 (x57_5 + 1)), (by rfl), H', ⟨by have := HJ2.out; have := HK2.out; have := HK3.out; have := HK4.out; have := HK5.out; omega⟩, ⟨by (with_reducible repeat (apply Kd.R_drew)); exact Kd.R_mono (Kd.R_far (p := ⟨go61, (x48_4 : Int).toNat, none⟩) (Kd.R_far1 HO_2.out rfl ((HL430_0.out.1 _ rfl).1.1)) (fun _ hk => hk.2) (.int .i64 (Go.bits .or .i64 (rd (rd_L2 x6_5 0) x48_4) (rd (rd_L2 x6_5 0) (rd t426 x57_5))))) (fun _ hk => hk.1)⟩, ⟨by (try simp only [hl6_5]); (with_reducible repeat (apply Kd.S_drew)); exact HQ63.out⟩, ⟨by (with_reducible repeat (apply Kd.R_drew)); exact Kd.R_mono (Kd.R_far (p := ⟨go61, (x48_4 : Int).toNat, none⟩) (Kd.R_far1 HO_55.out rfl ((HL430_0.out.1 _ rfl).1.2)) (fun _ hk => hk.2) (.int .i64 (Go.bits .or .i64 (rd (rd_L2 x6_5 0) x48_4) (rd (rd_L2 x6_5 0) (rd t426 x57_5))))) (fun _ hk => hk.1)⟩, ⟨by (with_reducible repeat (refine blk_drew ?_)); refine blk_far ?_ (by have h_ := Kd.R_ne HL430_0.out BK401.out (by decide); intro e_; exact h_ (by rw [e_]; rfl)) _; (with_reducible repeat (refine blk_drew ?_)); exact BK401.out⟩, ⟨by repeat ((with_reducible first | exact HB.out | refine below_set ?_ GB61.out))⟩⟩
                               ·rw [if_neg c60] at H
                                exact absurd H (by simp)
                              ·rw [if_neg c59] at H
                               exact absurd H (by simp)
                             ·rw [if_neg c58] at H
                              exact absurd H (by simp)
                            ·rw [if_neg c57] at H
                             exact absurd H (by simp)
                           ·rw [if_neg c56] at H
                            exact absurd H (by simp)
                          ·rw [if_neg c55] at H
                           exact absurd H (by simp)
                         ·rw [if_neg c54] at H
                          exact absurd H (by simp)
                        ·rw [if_neg c53] at H
                         have c53b0 : decide (x57_5 < (t426.length : Int)) = false := decide_eq_false c53
                         skip
                         skip
                         skip
                         skip
                         clear c53
                         have H' := Aside0.mk H
                         clear H
                         go_wp2
                         skip
                         go_roundg k5
                         case measure => have := HJ2.out; have := HK2.out; have := HK3.out; have := HK4.out; have := HK5.out; omega
                         case rel => exact ⟨(x6_5), (wrap64 (x48_4 + 1)), (by rfl), H', ⟨by have := HJ2.out; have := HK2.out; have := HK3.out; have := HK4.out; have := HK5.out; omega⟩, ⟨by (with_reducible repeat (apply Kd.R_drew)); exact Kd.R_mono HO_2.out (fun _ hk => trivial)⟩, ⟨by (try simp only [hl6_4]); (try simp only [hl6_5]); (with_reducible repeat (apply Kd.S_drew)); exact Kd.S_mono HO_6.out (fun _ hk => hk.1)⟩, ⟨by (with_reducible repeat (refine blk_drew ?_)); exact BK401.out⟩, ⟨by repeat ((with_reducible exact HB.out))⟩⟩
                     ·rw [if_neg c49] at H
                      exact absurd H (by simp)
                    ·rw [if_neg c48] at H
                     exact absurd H (by simp)
                   ·rw [if_neg c47] at H
                    exact absurd H (by simp)
                  ·rw [if_neg c46] at H
                   have c46b0 : decide (x48_4 < (rd y398 0)) = false := decide_eq_false c46
                   clear c46
                   have H' := Aside0.mk H
                   clear H
                   go_wp2
                   skip
                   go_roundg k4
                   case measure => have := HJ2.out; have := HK2.out; have := HK3.out; have := HK4.out; omega
                   case rel => exact ⟨(x6_4), (wrap64 (x45_3 + 1)), (by rfl), H', ⟨by have := HJ2.out; have := HK2.out; have := HK3.out; have := HK4.out; omega⟩, ⟨by (with_reducible repeat (apply Kd.R_drew)); exact HO_2.out⟩, ⟨by (try simp only [hl6_3]); (try simp only [hl6_4]); (with_reducible repeat (apply Kd.S_drew)); exact HO_6.out⟩, ⟨by (with_reducible repeat (refine blk_drew ?_)); exact BK401.out⟩, ⟨by repeat ((with_reducible exact HB.out))⟩⟩
               ·rw [if_neg c45] at H
                exact absurd H (by simp)
              ·rw [if_neg c44] at H
               have c44b0 : decide (x45_3 < (rd y398 0)) = false := decide_eq_false c44
               clear c44
               by_cases c65 : 0 < (y398.length : Int)
               ·rw [if_pos c65] at H
                have c65b0 : decide (0 < (y398.length : Int)) = true := decide_eq_true c65
                have c65b1 : decide (0 < y398.length) = true := decide_eq_true (by omega)
                clear c65
                have H' := Aside0.mk H
                clear H
                have p437 : 0 ≤ (0 : Int) := (by omega)
                have q437 : 0 < (y398.length : Int) := of_decide_eq_true (by (with_reducible assumption))
                obtain ⟨ad437, e437, hx437_0⟩ := Kd.at_int (Kd.R_reads' HO_2.out).2.2 0 p437 q437
                obtain rfl : ad406 = ad437 := (by injection e437)
                have qi437 : (0 < y398.length) = True := eq_true (by omega)
                (try rw [show ((0 : Int)).toNat = 0 from rfl] at hx437_0)
                (try rw [Addr.add_zero'] at hx437_0)
                replace p437 := eq_true p437
                replace q437 := eq_true q437
                go_wp2
                go_loopg [75] k3 (fun kq v75 w' => ∃ (x75_4 : Int) (x402000_4 : Int), v75 = .int .i64 x75_4 ∧ Aside0 (impl_EndsSpace.l4 kq y398 x6_3 (rd y398 0) x75_4 = some (r1, r2, r3)) ∧ Aside0 (kq ≤ k3) ∧ Aside0 (Kd.R (Kd.int .i64) 3 w' w.heap.size (fun _ => True) (.slice (some ad406) y398.length co21) y398) ∧ Aside0 (Kd.S (Kd.slice 3 (Kd.int .i64)) 22 w' w.heap.size (fun k_ => some k_ ≠ ((.slice (some ad406) y398.length co21) : Value).ownBlock) (.slice (some ⟨go20, 0, none⟩) x6_3.length co20) x6_3) ∧ Aside0 (w'.heap[gb401]? = some (.cells #[.int .i64 x402000_4, (.slice none 0 0)] 28 (0, 0))) ∧ Aside0 (Below w.heap.size w w'))
                case atStart => exact ⟨(0), (0), (by rfl), H', ⟨Nat.le_refl _⟩, ⟨by (with_reducible repeat (apply Kd.R_drew)); exact HO_2.out⟩, ⟨by (with_reducible repeat (apply Kd.S_drew)); exact HO_6.out⟩, ⟨by (with_reducible repeat (refine blk_drew ?_)); exact BK401.out⟩, ⟨by repeat ((with_reducible exact HB.out))⟩⟩
                case round =>
                 clear H'
                 try clear c1
                 try clear c2
                 try clear p2
                 try clear q2
                 try clear hx2
                 try clear qi2
                 try clear hf2
                 try clear c3
                 try clear p3
                 try clear q3
                 try clear hx3
                 try clear hf3
                 try clear c4
                 try clear p4
                 try clear q4
                 try clear hx4
                 try clear qi4
                 try clear c5
                 try clear c6
                 try clear p6
                 try clear q6
                 try clear hx6
                 try clear hf6
                 try clear c7
                 try clear c7b0
                 try clear c7b1
                 try clear c9
                 try clear c14
                 try clear c16
                 try clear c16b0
                 try clear c16b1
                 try clear c17
                 try clear c17b0
                 try clear c17b1
                 try clear c18
                 try clear c18b0
                 try clear c18b1
                 try clear c19
                 try clear c19b0
                 try clear c19b1
                 try clear c20
                 try clear p20
                 try clear q20
                 try clear hx20
                 try clear qi20
                 try clear hf20
                 try clear c24
                 try clear c26
                 try clear hx26
                 try clear hf26
                 try clear c29
                 try clear c29b0
                 try clear c30
                 try clear c30b0
                 try clear c31
                 try clear c31b0
                 try clear c32
                 try clear c32b0
                 try clear c32b1
                 try clear c33
                 try clear c33b0
                 try clear c33b1
                 try clear c34
                 try clear c34b0
                 try clear c35
                 try clear c35b0
                 try clear c36
                 try clear c36b0
                 try clear c36b1
                 try clear c37
                 try clear c37b0
                 try clear c37b1
                 try clear p39
                 try clear q39
                 try clear hx39
                 try clear hf39
                 try clear p40
                 try clear q40
                 try clear hx40
                 try clear qi40
                 try clear c41
                 try clear p41
                 try clear q41
                 try clear hx41
                 try clear qi41
                 try clear c42
                 try clear p42
                 try clear q42
                 try clear hx42
                 try clear qi42
                 try clear c43
                 try clear c43b0
                 try clear c43b1
                 try clear p43
                 try clear q43
                 try clear hx43
                 try clear qi43
                 try clear c44
                 try clear c44b0
                 try clear c45
                 try clear c45b0
                 try clear c45b1
                 try clear c46
                 try clear c46b0
                 try clear c47
                 try clear c47b0
                 try clear c47b1
                 try clear c48
                 try clear c48b0
                 try clear c49
                 try clear c49b0
                 try clear c53
                 try clear c53b0
                 try clear c54
                 try clear c54b0
                 try clear c55
                 try clear c55b0
                 try clear c56
                 try clear c56b0
                 try clear c56b1
                 try clear c57
                 try clear c57b0
                 try clear c58
                 try clear c58b0
                 try clear c59
                 try clear c59b0
                 try clear c60
                 try clear c60b0
                 try clear p61
                 try clear q61
                 try clear hx61
                 try clear hf61
                 try clear c63
                 try clear q63
                 try clear p64
                 try clear c65
                 try clear c65b0
                 try clear c65b1
                 try clear hcz15_0
                 try clear hcz15_1
                 try clear hfz15_0
                 try clear hfz15_1
                 try clear hx20_0
                 try clear hx26_0
                 try clear hx39_0
                 try clear hx402_0
                 try clear hx404_0
                 try clear hx406_0
                 try clear hx414_0
                 try clear hx415_0
                 try clear hx416_0
                 try clear hx417_0
                 try clear hx418_0
                 try clear hx422_0
                 try clear hx423_0
                 try clear hx424_0
                 try clear hx425_0
                 try clear hx429_0
                 try clear hx430_0
                 try clear hx431_0
                 try clear hx432_0
                 try clear hx433_0
                 try clear hx437_0
                 try clear hx61_0
                 try clear p2
                 try clear p20
                 try clear p3
                 try clear p39
                 try clear p4
                 try clear p40
                 try clear p402
                 try clear p404
                 try clear p406
                 try clear p41
                 try clear p414
                 try clear p415
                 try clear p416
                 try clear p417
                 try clear p418
                 try clear p42
                 try clear p422
                 try clear p423
                 try clear p424
                 try clear p425
                 try clear p429
                 try clear p430
                 try clear p431
                 try clear p432
                 try clear p433
                 try clear p437
                 try clear p6
                 try clear p61
                 try clear q2
                 try clear q20
                 try clear q3
                 try clear q39
                 try clear q4
                 try clear q40
                 try clear q402
                 try clear q404
                 try clear q406
                 try clear q41
                 try clear q414
                 try clear q415
                 try clear q416
                 try clear q417
                 try clear q418
                 try clear q42
                 try clear q422
                 try clear q423
                 try clear q424
                 try clear q425
                 try clear q429
                 try clear q430
                 try clear q431
                 try clear q432
                 try clear q433
                 try clear q437
                 try clear q61
                 obtain ⟨x75_4, x402000_4, rfl, HA, HK4, HO_2, HO_6, BK401, HB⟩ := hrel
                 cases gk with
                 | zero => exact absurd HA.out (by simp [impl_EndsSpace.l4])
                 | succ k4 =>
                  have H := HA.out
                  clear HA
                  simp only [impl_EndsSpace.l4] at H
                  by_cases c66 : x75_4 < (rd y398 0)
                  ·rw [if_pos c66] at H
                   have c66b0 : decide (x75_4 < (rd y398 0)) = true := decide_eq_true c66
                   clear c66
                   by_cases c67 : 0 < (x6_3.length : Int)
                   ·rw [if_pos c67] at H
                    have c67b0 : decide (0 < (x6_3.length : Int)) = true := decide_eq_true c67
                    have c67b1 : decide (0 < x6_3.length) = true := decide_eq_true (by omega)
                    clear c67
                    by_cases c68 : 0 ≤ x75_4
                    ·rw [if_pos c68] at H
                     have c68b0 : decide (0 ≤ x75_4) = true := decide_eq_true c68
                     clear c68
                     by_cases c69 : x75_4 < ((rd_L2 x6_3 0).length : Int)
                     ·rw [if_pos c69] at H
                      have c69b0 : decide (x75_4 < ((rd_L2 x6_3 0).length : Int)) = true := decide_eq_true c69
                      clear c69
                      have c70b0 := eq_true (of_decide_eq_true (by (with_reducible assumption)) : 0 ≤ x75_4)
                      obtain ⟨ji71, hji71⟩ : ∃ j_ : Int, (shr .i64 (rd (rd_L2 x6_3 0) x75_4) x75_4) = j_ := ⟨_, rfl⟩
                      replace H : (if (Go.bits .and .i64 (ji71) 1) = 1 then (some (0, ([] : List Int), false)) else (impl_EndsSpace.l4 k4 y398 x6_3 (rd y398 0) (wrap64 (x75_4 + 1)))) = some (r1, r2, r3) := by (rw [hji71] at H; exact H)
                      have hji71_ : ((rd (rd_L2 x6_3 0) x75_4) / 2 ^ min x75_4.toNat 64) = ji71 := hji71
                      have hji71z : x75_4 ≤ 64 → ((rd (rd_L2 x6_3 0) x75_4) / 2 ^ x75_4.toNat) = ji71 := shr_small hji71
                      by_cases c72 : (Go.bits .and .i64 (ji71) 1) = 1
                      ·rw [if_pos c72] at H
                       have c72b0 : ((Go.bits .and .i64 (ji71) 1) == 1) = true := beq_iff_eq.mpr c72
                       have c72b1 : ((Go.bits .and .i64 (ji71) 1) != 1) = false := bne_eq_false_iff_eq.mpr c72
                       clear c72
                       simp only [Option.some.injEq, Prod.mk.injEq] at H
                       obtain ⟨rfl, rfl, rfl⟩ := H
                       have p438 : 0 ≤ (0 : Int) := (by omega)
                       have q438 : 0 < (x6_3.length : Int) := of_decide_eq_true (by (with_reducible assumption))
                       obtain ⟨ad438, A438_0, c438_0, e438, hx438_0, hl438_0, hi438_0⟩ := at_L2 (Kd.S_reads' HO_6.out).2.2 0 p438 q438
                       obtain rfl : (⟨go20, 0, none⟩ : Addr) = ad438 := (by injection e438)
                       obtain ⟨ce438, hce438, hMe438, hcc438⟩ := Kd.S_get HO_6.out [] 0 p438 (by exact q438)
                       obtain ⟨ve438_0, rfl, ge438_0⟩ := hMe438
                       have hv438_0 := hcc438 0 _ rfl
                       rw [Nat.add_zero, show ((Kd.slice 3 (Kd.int .i64))).sz = 1 from rfl, Nat.mul_one] at hv438_0
                       replace hv438_0 := Option.some.inj (hv438_0.symm.trans hx438_0)
                       rw [hv438_0] at ge438_0
                       have HL438_0 := Aside0.mk (show Kd.R (Kd.int .i64) 3 _ _ _ _ (rd_L2 x6_3 0) from ge438_0)
                       clear hv438_0 ge438_0
                       have HX438_0 := Aside0.mk hx438_0
                       clear hcc438 hce438
                       (simp only [add_plain] at hx438_0)
                       have qi438 : (0 < x6_3.length) = True := eq_true (by omega)
                       (try rw [show ((0 : Int)).toNat = 0 from rfl] at hx438_0)
                       skip
                       have HR438_0 := Aside0.mk hi438_0
                       have HC438_0 := Aside0.mk hl438_0
                       clear hi438_0 hl438_0
                       replace p438 := eq_true p438
                       replace q438 := eq_true q438
                       have p439 : 0 ≤ (x75_4 : Int) := of_decide_eq_true (by (with_reducible assumption))
                       have q439 : x75_4 < ((rd_L2 x6_3 0).length : Int) := of_decide_eq_true (by (with_reducible assumption))
                       obtain ⟨ad439, e439, hx439_0⟩ := Kd.at_int (by repeat ((with_reducible exact HR438_0.out))) x75_4 p439 q439
                       cases e439
                       replace p439 := eq_true p439
                       replace q439 := eq_true q439
                       have hcz73_0 : wr.cell? ⟨gb401, 0, none⟩ = some (.int .i64 x402000_4) := (blk_cell BK401.out 0).trans rfl
                       have hcz73_1 : wr.cell? ⟨gb401, 1, none⟩ = some (.slice none 0 0) := (blk_cell BK401.out 1).trans rfl
                       have hfz73_0 := blk_frozen BK401.out 0
                       have hfz73_1 := blk_frozen BK401.out 1
                       go_wp2
                       refine bodyPost_ret (results_ct rfl _ _ gb401 28 #[.int .i64 0, .slice none 0 0] (0, 0) _ rfl (by (with_reducible repeat (refine blk_drew ?_)); refine blk_put (cs := #[.int .i64 0, .slice none 0 0]) ?_ 1 _ rfl; (with_reducible repeat (refine blk_drew ?_)); refine blk_put (cs := #[.int .i64 x402000_4, .slice none 0 0]) ?_ 0 _ rfl; (with_reducible repeat (refine blk_drew ?_)); exact BK401.out) Try.underlying28 rfl (by kernel_rfl)) rfl ?_
                       exact ⟨_, by rfl, by exact Kd.R_nil _ _ _ _ _, by repeat ((with_reducible first | exact HB.out | refine below_set ?_ GE401.out))⟩
                      ·rw [if_neg c72] at H
                       have c72b0 : ((Go.bits .and .i64 (ji71) 1) == 1) = false := beq_eq_false_iff_ne.mpr c72
                       have c72b1 : ((Go.bits .and .i64 (ji71) 1) != 1) = true := bne_iff_ne.mpr c72
                       have H' := Aside0.mk H
                       clear H
                       have p438 : 0 ≤ (0 : Int) := (by omega)
                       have q438 : 0 < (x6_3.length : Int) := of_decide_eq_true (by (with_reducible assumption))
                       obtain ⟨ad438, A438_0, c438_0, e438, hx438_0, hl438_0, hi438_0⟩ := at_L2 (Kd.S_reads' HO_6.out).2.2 0 p438 q438
                       obtain rfl : (⟨go20, 0, none⟩ : Addr) = ad438 := (by injection e438)
                       obtain ⟨ce438, hce438, hMe438, hcc438⟩ := Kd.S_get HO_6.out [] 0 p438 (by exact q438)
                       obtain ⟨ve438_0, rfl, ge438_0⟩ := hMe438
                       have hv438_0 := hcc438 0 _ rfl
                       rw [Nat.add_zero, show ((Kd.slice 3 (Kd.int .i64))).sz = 1 from rfl, Nat.mul_one] at hv438_0
                       replace hv438_0 := Option.some.inj (hv438_0.symm.trans hx438_0)
                       rw [hv438_0] at ge438_0
                       have HL438_0 := Aside0.mk (show Kd.R (Kd.int .i64) 3 _ _ _ _ (rd_L2 x6_3 0) from ge438_0)
                       clear hv438_0 ge438_0
                       have HX438_0 := Aside0.mk hx438_0
                       clear hcc438 hce438
                       (simp only [add_plain] at hx438_0)
                       have qi438 : (0 < x6_3.length) = True := eq_true (by omega)
                       (try rw [show ((0 : Int)).toNat = 0 from rfl] at hx438_0)
                       skip
                       have HR438_0 := Aside0.mk hi438_0
                       have HC438_0 := Aside0.mk hl438_0
                       clear hi438_0 hl438_0
                       replace p438 := eq_true p438
                       replace q438 := eq_true q438
                       have p439 : 0 ≤ (x75_4 : Int) := of_decide_eq_true (by (with_reducible assumption))
                       have q439 : x75_4 < ((rd_L2 x6_3 0).length : Int) := of_decide_eq_true (by (with_reducible assumption))
                       obtain ⟨ad439, e439, hx439_0⟩ := Kd.at_int (by repeat ((with_reducible exact HR438_0.out))) x75_4 p439 q439
                       cases e439
                       replace p439 := eq_true p439
                       replace q439 := eq_true q439
                       go_wp2
                       go_roundg k4
                       case measure => have := HJ2.out; have := HK2.out; have := HK3.out; have := HK4.out; omega
                       case rel => exact ⟨(wrap64 (x75_4 + 1)), (x402000_4), (by rfl), H', ⟨by have := HJ2.out; have := HK2.out; have := HK3.out; have := HK4.out; omega⟩, ⟨by (with_reducible repeat (apply Kd.R_drew)); exact HO_2.out⟩, ⟨by (with_reducible repeat (apply Kd.S_drew)); exact HO_6.out⟩, ⟨by (with_reducible repeat (refine blk_drew ?_)); exact BK401.out⟩, ⟨by repeat ((with_reducible exact HB.out))⟩⟩
                     ·rw [if_neg c69] at H
                      exact absurd H (by simp)
                    ·rw [if_neg c68] at H
                     exact absurd H (by simp)
                   ·rw [if_neg c67] at H
                    exact absurd H (by simp)
                  ·rw [if_neg c66] at H
                   have c66b0 : decide (x75_4 < (rd y398 0)) = false := decide_eq_false c66
                   clear c66
                   by_cases c74 : 0 < (y398.length : Int)
                   ·rw [if_pos c74] at H
                    have c74b0 : decide (0 < (y398.length : Int)) = true := decide_eq_true c74
                    have c74b1 : decide (0 < y398.length) = true := decide_eq_true (by omega)
                    clear c74
                    replace H := Option.bind_eq_some_iff.mp H
                    obtain ⟨⟨t441, t442⟩, A750, H⟩ := H
                    replace H : (some (t441, t442, true)) = some (r1, r2, r3) := H
                    have A75 := Aside0.mk A750
                    clear A750
                    simp only [Option.some.injEq, Prod.mk.injEq] at H
                    obtain ⟨rfl, rfl, rfl⟩ := H
                    have p440 : 0 ≤ (0 : Int) := (by omega)
                    have q440 : 0 < (y398.length : Int) := of_decide_eq_true (by (with_reducible assumption))
                    obtain ⟨ad440, e440, hx440_0⟩ := Kd.at_int (Kd.R_reads' HO_2.out).2.2 0 p440 q440
                    obtain rfl : ad406 = ad440 := (by injection e440)
                    have qi440 : (0 < y398.length) = True := eq_true (by omega)
                    (try rw [show ((0 : Int)).toNat = 0 from rfl] at hx440_0)
                    (try rw [Addr.add_zero'] at hx440_0)
                    replace p440 := eq_true p440
                    replace q440 := eq_true q440
                    go_wp2_with (((with_reducible refine gate_callee (f := 57) rfl ?_); refine goesL_ (some 90) rfl rfl Try.func57 (by kernel_rfl) rfl #[.int .i64 (rd y398 0), .func (.func 58) #[] #[.pointer (some ad406), .pointer (some ⟨go20, 0, none⟩)]] rfl (by (try simp only [List.map_toArray, List.map_cons, List.map_nil]); rfl) ?_; (refine (impl_those__EndsSpace_1.calls k4 (rd y398 0) (some ad406) co21 y398 (some ⟨go20, 0, none⟩) co20 x6_3 t441 t442 _ ?side1 ?side2 ?side3 ?side4 A75.out).mono ?_); (case side1 => repeat (exact (Kd.R_reads' HO_2.out).2.2)); (case side2 => exact (Kd.R_reads' HO_2.out).2.1); (case side3 => repeat (exact (Kd.S_reads' HO_6.out).2.2)); (case side4 => exact (Kd.S_reads' HO_6.out).2.1); rintro e w76 ⟨v443, rfl, ho0, hb⟩; refine ⟨_, rfl, ?_⟩; have n0_ := Aside0.mk (Kd.R_elder' (by (with_reducible repeat (apply Kd.R_drew)); exact HO_2.out) (Kd.R_base ho0) hb); have n1_ := Aside0.mk (Kd.S_elder' (by (with_reducible repeat (apply Kd.S_drew)); exact HO_6.out) (Kd.R_base ho0) hb); have n2_ := Aside0.mk (Kd.R_lower (Kd.R_new' ho0 (Kd.R_lt (by (with_reducible repeat (apply Kd.R_drew)); exact HO_2.out))) (below_size (by repeat ((with_reducible exact HB.out))))); have n3_ := Aside0.mk (blk_below (g := gb401) (o := .cells #[.int .i64 x402000_4, .slice none 0 0] 28 (0, 0)) (by (with_reducible repeat (refine blk_drew ?_)); exact BK401.out) hb); have n4_ := Aside0.mk (below_step (by repeat ((with_reducible exact HB.out))) hb); clear HO_2; clear HO_6; clear BK401; clear HB; have HO_2 := n0_; have HO_6 := n1_; have HO444 := n2_; have BK401 := n3_; have HB := n4_; clear n0_ n1_ n2_ n3_ n4_; (try clear hb); (try clear ho0); have hcz77_0 : w76.cell? ⟨gb401, 0, none⟩ = some (.int .i64 x402000_4) := (blk_cell BK401.out 0).trans rfl; have hcz77_1 : w76.cell? ⟨gb401, 1, none⟩ = some (.slice none 0 0) := (blk_cell BK401.out 1).trans rfl; have hfz77_0 := blk_frozen BK401.out 0; have hfz77_1 := blk_frozen BK401.out 1; obtain ⟨Ao78, co78, eo78⟩ := Kd.R_slice HO444.out; subst eo78))
                    refine bodyPost_ret (results_ct rfl _ _ gb401 28 #[.int .i64 t441, .slice Ao78 t442.length co78] (0, 0) _ rfl (by (with_reducible repeat (refine blk_drew ?_)); refine blk_put (cs := #[.int .i64 t441, .slice none 0 0]) ?_ 1 _ rfl; (with_reducible repeat (refine blk_drew ?_)); refine blk_put (cs := #[.int .i64 x402000_4, .slice none 0 0]) ?_ 0 _ rfl; (with_reducible repeat (refine blk_drew ?_)); exact BK401.out) Try.underlying28 rfl (by kernel_rfl)) rfl ?_
                    exact ⟨_, by rfl, by (with_reducible repeat (apply Kd.R_drew)); exact Kd.R_mono (Kd.R_far (p := ⟨gb401, 1, none⟩) (Kd.R_far (p := ⟨gb401, 0, none⟩) (Kd.R_types HO444.out BK401.out (by decide)) (fun _ hk => hk.2) (.int .i64 t441)) (fun _ hk => hk.2) (.slice Ao78 t442.length co78)) (fun _ hk => trivial), by repeat ((with_reducible first | exact HB.out | refine below_set ?_ GE401.out))⟩
                   ·rw [if_neg c74] at H
                    exact absurd H (by simp)
               ·rw [if_neg c65] at H
                exact absurd H (by simp)
           ·rw [if_neg c43] at H
            exact absurd H (by simp)
       ·rw [if_neg c19] at H
        exact absurd H (by simp)
      ·rw [if_neg c18] at H
       exact absurd H (by simp)
     ·rw [if_neg c17] at H
      exact absurd H (by simp)
    ·rw [if_neg c16] at H
     exact absurd H (by simp)

/-! ### laws_eqIntSS: function 25 -/
def laws_eqIntSS.l0 : Nat → List (List Int) → List (List Int) → Int → Option (Bool)
 | 0, _, _, _ => none
 | k + 1, x0, x1, x5 => if x5 < (x0.length : Int) then (if 0 ≤ x5 then (if x5 < (x1.length : Int) then ((laws_eqIntS.f k (rd_L2 x0 x5) (rd_L2 x1 x5)).bind fun t447 => (if t447 = true then (laws_eqIntSS.l0 k x0 x1 (wrap64 (x5 + 1))) else (some false))) else (none)) else (none)) else (some true)
def laws_eqIntSS.f (k : Nat) (l0 : List (List Int)) (l1 : List (List Int)) : Option (Bool) := if (l0.length : Int) = (l1.length : Int) then (laws_eqIntSS.l0 k l0 l1 0) else (some false)
theorem laws_eqIntSS.mono_l : ∀ k, (∀ y0 y1 y2, LeO (laws_eqIntSS.l0 k y0 y1 y2) (laws_eqIntSS.l0 (k + 1) y0 y1 y2))
 | 0 => fun _ _ _ r h => by simp [laws_eqIntSS.l0] at h
 | k + 1 => by
  have ih0 := laws_eqIntSS.mono_l k
  ·intro y0 y1 y2
   unfold laws_eqIntSS.l0
   repeat' first
   | (with_reducible exact ih0 _ _ _)
   | (with_reducible exact laws_eqIntS.mono _ _ _)
   | (with_reducible exact LeO.refl _)
   | (with_reducible refine LeO.ite ?_ ?_)
   | (with_reducible refine LeO.bind ?_ (fun _ => ?_))
theorem laws_eqIntSS.mono : ∀ a0 a1 k, LeO (laws_eqIntSS.f k a0 a1) (laws_eqIntSS.f (k + 1) a0 a1) := by
 intro a0 a1 k
 have ih0 := laws_eqIntSS.mono_l k
 unfold laws_eqIntSS.f
 repeat' first
   | (with_reducible exact ih0 _ _ _)
   | (with_reducible exact LeO.refl _)
   | (with_reducible refine LeO.ite ?_ ?_)
set_option maxHeartbeats 8000000 in
set_option maxRecDepth 100000 in
theorem laws_eqIntSS.calls (k : Nat) (A0 : Option Addr) (c0 : Nat) (l0 : List (List Int)) (A1 : Option Addr) (c1 : Nat) (l1 : List (List Int)) (r : Bool) (w : World) (hr0 : Kd.C (Kd.slice 3 (Kd.int .i64)) w A0 l0.length l0) (hc0 : l0.length ≤ c0) (hr1 : Kd.C (Kd.slice 3 (Kd.int .i64)) w A1 l1.length l1) (hc1 : l1.length ≤ c1) (h : laws_eqIntSS.f k l0 l1 = some r) :
  Calls Try.prog 25 #[.slice A0 l0.length c0, .slice A1 l1.length c1] w fun e w' => e = .returned (.bool r) ∧ Drawn0 w w' := by
 have HR0 := Aside0.mk hr0
 have HC0 := Aside0.mk hc0
 clear hr0 hc0
 have HR1 := Aside0.mk hr1
 have HC1 := Aside0.mk hc1
 clear hr1 hc1
 have H : (if (l0.length : Int) = (l1.length : Int) then (laws_eqIntSS.l0 k l0 l1 0) else (some false)) = some r := h
 clear h
 by_cases c3 : (l0.length : Int) = (l1.length : Int)
 ·rw [if_pos c3] at H
  have c3b0 : ((l0.length : Int) == (l1.length : Int)) = true := beq_iff_eq.mpr c3
  have c3b1 : ((l0.length : Int) != (l1.length : Int)) = false := bne_eq_false_iff_eq.mpr c3
  have c3b2 : (l0.length == l1.length) = true := by (simp at c3 ⊢; omega)
  clear c3
  have H' := Aside0.mk H
  clear H
  go_enter Try.func25, Try.ntmps25
  go_wp2
  repeat (go_quiet (fail); try go_wp2)
  go_loopg [5] k (fun kq v5 w' => ∃ (x5_1 : Int), v5 = .int .i64 x5_1 ∧ Aside0 (laws_eqIntSS.l0 kq l0 l1 x5_1 = some r) ∧ Aside0 (kq ≤ k) ∧ Drawn0 w w')
  case atStart => exact ⟨(0), (by rfl), H', ⟨Nat.le_refl _⟩, by repeat (exact Drawn0.refl _)⟩
  case round =>
   clear H'
   try clear c1
   try clear c2
   try clear p2
   try clear c3
   try clear c3b0
   try clear c3b1
   try clear c3b2
   obtain ⟨x5_1, rfl, HA, HK1, ⟨m1, rfl⟩⟩ := hrel
   cases gk with
   | zero => exact absurd HA.out (by simp [laws_eqIntSS.l0])
   | succ k1 =>
    have H := HA.out
    clear HA
    simp only [laws_eqIntSS.l0] at H
    by_cases c4 : x5_1 < (l0.length : Int)
    ·rw [if_pos c4] at H
     have c4b0 : decide (x5_1 < (l0.length : Int)) = true := decide_eq_true c4
     clear c4
     by_cases c5 : 0 ≤ x5_1
     ·rw [if_pos c5] at H
      have c5b0 : decide (0 ≤ x5_1) = true := decide_eq_true c5
      clear c5
      by_cases c6 : x5_1 < (l1.length : Int)
      ·rw [if_pos c6] at H
       have c6b0 : decide (x5_1 < (l1.length : Int)) = true := decide_eq_true c6
       clear c6
       replace H := Option.bind_eq_some_iff.mp H
       obtain ⟨t447, A70, H⟩ := H
       replace H : (if t447 = true then (laws_eqIntSS.l0 k1 l0 l1 (wrap64 (x5_1 + 1))) else (some false)) = some r := H
       have A7 := Aside0.mk A70
       clear A70
       by_cases c8 : t447 = true
       ·subst c8
        have H1 : (laws_eqIntSS.l0 k1 l0 l1 (wrap64 (x5_1 + 1))) = some r := by rw [if_pos rfl] at H; exact H
        clear H
        have H := H1
        clear H1
        have H' := Aside0.mk H
        clear H
        have p445 : 0 ≤ (x5_1 : Int) := of_decide_eq_true (by (with_reducible assumption))
        have q445 : x5_1 < (l0.length : Int) := of_decide_eq_true (by (with_reducible assumption))
        obtain ⟨ad445, A445_0, c445_0, e445, hx445_0, hl445_0, hi445_0⟩ := at_L2 HR0.out x5_1 p445 q445
        cases e445
        have HR445_0 := Aside0.mk hi445_0
        have HC445_0 := Aside0.mk hl445_0
        clear hi445_0 hl445_0
        replace p445 := eq_true p445
        replace q445 := eq_true q445
        have p446 : 0 ≤ (x5_1 : Int) := of_decide_eq_true (by (with_reducible assumption))
        have q446 : x5_1 < (l1.length : Int) := of_decide_eq_true (by (with_reducible assumption))
        obtain ⟨ad446, A446_0, c446_0, e446, hx446_0, hl446_0, hi446_0⟩ := at_L2 HR1.out x5_1 p446 q446
        cases e446
        have HR446_0 := Aside0.mk hi446_0
        have HC446_0 := Aside0.mk hl446_0
        clear hi446_0 hl446_0
        replace p446 := eq_true p446
        replace q446 := eq_true q446
        go_wp2_with ((go_at_call 16; (with_reducible refine (laws_eqIntS.calls k1 _ _ (rd_L2 l0 x5_1) _ _ (rd_L2 l1 x5_1) true _ ?side1 ?side2 ?side3 ?side4 A7.out).mono ?_); (case side1 => repeat (exact HR445_0.out)); (case side2 => exact HC445_0.out); (case side3 => repeat (exact HR446_0.out)); (case side4 => exact HC446_0.out); rintro e w' ⟨rfl, ⟨nd, rfl⟩⟩; skip))
        repeat (go_quiet (first | (go_at_call 16; (with_reducible refine (laws_eqIntS.calls k1 _ _ (rd_L2 l0 x5_1) _ _ (rd_L2 l1 x5_1) true _ ?side1 ?side2 ?side3 ?side4 A7.out).mono ?_); (case side1 => repeat (first | exact HR445_0.out | (with_reducible refine Kd.C_alloc ?_ _) | (with_reducible refine Kd.C_drewN ?_ _) | (with_reducible refine Kd.C_drew ?_))); (case side2 => exact HC445_0.out); (case side3 => repeat (first | exact HR446_0.out | (with_reducible refine Kd.C_alloc ?_ _) | (with_reducible refine Kd.C_drewN ?_ _) | (with_reducible refine Kd.C_drew ?_))); (case side4 => exact HC446_0.out); rintro e w' ⟨rfl, ⟨nd, rfl⟩⟩; (try first | exact ⟨rfl, _, World.drewN_drewN _ _ _⟩ | exact ⟨rfl, _, Eq.trans (World.drewN_drewN _ _ _) (congrArg (World.drewN _) (Nat.add_assoc _ _ _))⟩))); try go_wp2_with ((go_at_call 16; (with_reducible refine (laws_eqIntS.calls k1 _ _ (rd_L2 l0 x5_1) _ _ (rd_L2 l1 x5_1) true _ ?side1 ?side2 ?side3 ?side4 A7.out).mono ?_); (case side1 => repeat (exact HR445_0.out)); (case side2 => exact HC445_0.out); (case side3 => repeat (exact HR446_0.out)); (case side4 => exact HC446_0.out); rintro e w' ⟨rfl, ⟨nd, rfl⟩⟩; skip)))
        go_roundg k1
        case measure => have := HK1.out; omega
        case rel => exact ⟨(wrap64 (x5_1 + 1)), (by rfl), H', ⟨by have := HK1.out; omega⟩, by repeat (first | exact Drawn0.refl _ | apply Drawn0.step)⟩
       ·replace c8 := Bool.eq_false_iff.mpr c8
        subst c8
        have H1 : (some false) = some r := by rw [if_neg (show ¬ (false = true) by decide)] at H; exact H
        clear H
        have H := H1
        clear H1
        obtain rfl := Option.some.inj H
        have p445 : 0 ≤ (x5_1 : Int) := of_decide_eq_true (by (with_reducible assumption))
        have q445 : x5_1 < (l0.length : Int) := of_decide_eq_true (by (with_reducible assumption))
        obtain ⟨ad445, A445_0, c445_0, e445, hx445_0, hl445_0, hi445_0⟩ := at_L2 HR0.out x5_1 p445 q445
        cases e445
        have HR445_0 := Aside0.mk hi445_0
        have HC445_0 := Aside0.mk hl445_0
        clear hi445_0 hl445_0
        replace p445 := eq_true p445
        replace q445 := eq_true q445
        have p446 : 0 ≤ (x5_1 : Int) := of_decide_eq_true (by (with_reducible assumption))
        have q446 : x5_1 < (l1.length : Int) := of_decide_eq_true (by (with_reducible assumption))
        obtain ⟨ad446, A446_0, c446_0, e446, hx446_0, hl446_0, hi446_0⟩ := at_L2 HR1.out x5_1 p446 q446
        cases e446
        have HR446_0 := Aside0.mk hi446_0
        have HC446_0 := Aside0.mk hl446_0
        clear hi446_0 hl446_0
        replace p446 := eq_true p446
        replace q446 := eq_true q446
        go_wp2_with ((go_at_call 16; (with_reducible refine (laws_eqIntS.calls k1 _ _ (rd_L2 l0 x5_1) _ _ (rd_L2 l1 x5_1) false _ ?side1 ?side2 ?side3 ?side4 A7.out).mono ?_); (case side1 => repeat (exact HR445_0.out)); (case side2 => exact HC445_0.out); (case side3 => repeat (exact HR446_0.out)); (case side4 => exact HC446_0.out); rintro e w' ⟨rfl, ⟨nd, rfl⟩⟩; skip))
        repeat (go_quiet (first | (go_at_call 16; (with_reducible refine (laws_eqIntS.calls k1 _ _ (rd_L2 l0 x5_1) _ _ (rd_L2 l1 x5_1) false _ ?side1 ?side2 ?side3 ?side4 A7.out).mono ?_); (case side1 => repeat (first | exact HR445_0.out | (with_reducible refine Kd.C_alloc ?_ _) | (with_reducible refine Kd.C_drewN ?_ _) | (with_reducible refine Kd.C_drew ?_))); (case side2 => exact HC445_0.out); (case side3 => repeat (first | exact HR446_0.out | (with_reducible refine Kd.C_alloc ?_ _) | (with_reducible refine Kd.C_drewN ?_ _) | (with_reducible refine Kd.C_drew ?_))); (case side4 => exact HC446_0.out); rintro e w' ⟨rfl, ⟨nd, rfl⟩⟩; (try first | exact ⟨rfl, _, World.drewN_drewN _ _ _⟩ | exact ⟨rfl, _, Eq.trans (World.drewN_drewN _ _ _) (congrArg (World.drewN _) (Nat.add_assoc _ _ _))⟩))); try go_wp2_with ((go_at_call 16; (with_reducible refine (laws_eqIntS.calls k1 _ _ (rd_L2 l0 x5_1) _ _ (rd_L2 l1 x5_1) false _ ?side1 ?side2 ?side3 ?side4 A7.out).mono ?_); (case side1 => repeat (exact HR445_0.out)); (case side2 => exact HC445_0.out); (case side3 => repeat (exact HR446_0.out)); (case side4 => exact HC446_0.out); rintro e w' ⟨rfl, ⟨nd, rfl⟩⟩; skip)))
        go_ret
        exact ⟨by rfl, by repeat (first | exact Drawn0.refl _ | apply Drawn0.step)⟩
      ·rw [if_neg c6] at H
       exact absurd H (by simp)
     ·rw [if_neg c5] at H
      exact absurd H (by simp)
    ·rw [if_neg c4] at H
     have c4b0 : decide (x5_1 < (l0.length : Int)) = false := decide_eq_false c4
     clear c4
     obtain rfl := Option.some.inj H
     go_wp2
     repeat (go_quiet (fail); try go_wp2)
     go_ret
     exact ⟨by rfl, by repeat (first | exact Drawn0.refl _ | apply Drawn0.step)⟩
 ·rw [if_neg c3] at H
  have c3b0 : ((l0.length : Int) == (l1.length : Int)) = false := beq_eq_false_iff_ne.mpr c3
  have c3b1 : ((l0.length : Int) != (l1.length : Int)) = true := bne_iff_ne.mpr c3
  have c3b2 : (l0.length == l1.length) = false := by (simp at c3 ⊢; omega)
  obtain rfl := Option.some.inj H
  go_enter Try.func25, Try.ntmps25
  go_wp2
  repeat (go_quiet (fail); try go_wp2)
  go_ret
  exact ⟨by rfl, by repeat (exact Drawn0.refl _)⟩

/-! ### laws_markIntS: function 36 -/
def laws_markIntS.l0 : Nat → List Int → Int → Int → Option (Int × List Int)
 | 0, _, _, _ => none
 | k + 1, x0, x1, x5 => if x5 < (x0.length : Int) then (if 0 ≤ x5 then (laws_markIntS.l0 k (x0.set (x5 : Int).toNat x1) (wrap64 (x1 + 1)) (wrap64 (x5 + 1))) else (none)) else (some (x1, x0))
def laws_markIntS.f (k : Nat) (l0 : List Int) (a1 : Int) : Option (Int × List Int) := laws_markIntS.l0 k l0 a1 0
theorem laws_markIntS.mono_l : ∀ k, (∀ y0 y1 y2, LeO (laws_markIntS.l0 k y0 y1 y2) (laws_markIntS.l0 (k + 1) y0 y1 y2))
 | 0 => fun _ _ _ r h => by simp [laws_markIntS.l0] at h
 | k + 1 => by
  have ih0 := laws_markIntS.mono_l k
  ·intro y0 y1 y2
   unfold laws_markIntS.l0
   repeat' first
   | (with_reducible exact ih0 _ _ _)
   | (with_reducible exact LeO.refl _)
   | (with_reducible refine LeO.ite ?_ ?_)
theorem laws_markIntS.mono : ∀ a0 a1 k, LeO (laws_markIntS.f k a0 a1) (laws_markIntS.f (k + 1) a0 a1) := by
 intro a0 a1 k
 have ih0 := laws_markIntS.mono_l k
 unfold laws_markIntS.f
 repeat' first
   | (with_reducible exact ih0 _ _ _)
set_option maxHeartbeats 8000000 in
set_option maxRecDepth 100000 in
theorem laws_markIntS.calls (k : Nat) (P0_ : Nat → Prop) (u9000_ : Value) (l0 : List Int) (a1 : Int) (r1 : Int) (r2 : List Int) (w0 w : World) (hB : Below w0.heap.size w0 w) (ho0 : Kd.R (Kd.int .i64) 3 w w0.heap.size P0_ u9000_ l0) (h : laws_markIntS.f k l0 a1 = some (r1, r2)) :
  Calls Try.prog 36 #[u9000_, .int .i64 a1] w fun e w' => e = .returned (.int .i64 r1) ∧ Kd.R (Kd.int .i64) 3 w' w0.heap.size (fun k_ => (P0_ k_ ∨ w.heap.size ≤ k_)) u9000_ r2 ∧ Below w0.heap.size w0 w' ∧ Kept w w' (fun k_ => P0_ k_) := by
 have HO0 := Aside0.mk (show Kd.R (Kd.int .i64) 3 w w0.heap.size (fun k_ => (P0_ k_ ∨ w.heap.size ≤ k_)) u9000_ l0 from Kd.R_mono ho0 (fun k_ hk => (.inl hk)))
 have HK := Aside0.mk (Kept.refl w (fun k_ => P0_ k_))
 have HW0 := Aside0.mk hB.size
 have HB := Aside0.mk hB
 clear hB
 have H : (laws_markIntS.l0 k l0 a1 0) = some (r1, r2) := h
 clear h
 have H' := Aside0.mk H
 clear H
 go_enter Try.func36, Try.ntmps36
 go_wp2
 go_loopg [1, 5] k (fun kq v1 v5 w' => ∃ (x0_1 : List Int) (x1_1 : Int) (x5_1 : Int), v1 = .int .i64 x1_1 ∧ v5 = .int .i64 x5_1 ∧ Aside0 (laws_markIntS.l0 kq x0_1 x1_1 x5_1 = some (r1, r2)) ∧ Aside0 (kq ≤ k) ∧ Aside0 (Kd.R (Kd.int .i64) 3 w' w0.heap.size (fun k_ => (P0_ k_ ∨ w.heap.size ≤ k_)) u9000_ x0_1) ∧ Aside0 (Kept w w' (fun k_ => P0_ k_)) ∧ Aside0 (Below w0.heap.size w0 w'))
 case atStart => exact ⟨(l0), (a1), (0), (by rfl), (by rfl), H', ⟨Nat.le_refl _⟩, ⟨by (with_reducible repeat (apply Kd.R_drew)); exact HO0.out⟩, ⟨by repeat ((with_reducible exact HK.out))⟩, ⟨by repeat ((with_reducible exact HB.out))⟩⟩
 case round =>
  clear H'
  try clear p2
  obtain ⟨x0_1, x1_1, x5_1, rfl, rfl, HA, HK1, HO_0, HK, HB⟩ := hrel
  cases gk with
  | zero => exact absurd HA.out (by simp [laws_markIntS.l0])
  | succ k1 =>
   have H := HA.out
   clear HA
   simp only [laws_markIntS.l0] at H
   by_cases c3 : x5_1 < (x0_1.length : Int)
   ·rw [if_pos c3] at H
    have c3b0 : decide (x5_1 < (x0_1.length : Int)) = true := decide_eq_true c3
    clear c3
    by_cases c4 : 0 ≤ x5_1
    ·rw [if_pos c4] at H
     have c4b0 : decide (0 ≤ x5_1) = true := decide_eq_true c4
     clear c4
     obtain ⟨y448, hy448⟩ : ∃ y_ : List Int, y_ = (x0_1.set (x5_1 : Int).toNat x1_1) := ⟨_, rfl⟩
     replace H : (laws_markIntS.l0 k1 y448 (wrap64 (x1_1 + 1)) (wrap64 (x5_1 + 1))) = some (r1, r2) := by (rw [hy448]; with_reducible exact H)
     have Ny448 := Aside0.mk hy448
     clear hy448
     have H' := Aside0.mk H
     clear H
     obtain ⟨Ao6, co6, eo6⟩ := Kd.R_slice HO_0.out
     subst eo6
     have p5 : 0 ≤ (x5_1 : Int) := of_decide_eq_true (by (with_reducible assumption))
     have q5 : (x5_1 : Int) < ((x0_1.length : Int) : Int) := of_decide_eq_true (by (with_reducible assumption))
     obtain ⟨go5, co5, eo5, gb5, gl5, cl5, HG5⟩ := Kd.R_form HO_0.out (by omega)
     (cases eo5)
     have GB5 := Aside0.mk gb5
     have GG5 := Aside0.mk HG5
     clear gb5 gl5 HG5
     have HMgo5 := Aside0.mk (show (P0_ go5 ∨ w.heap.size ≤ go5) from (HO_0.out.1 _ rfl))
     obtain ⟨hx5_0, hf5_0⟩ := Kd.R_celln 0 HO_0.out (x5_1 : Int) p5 q5
     replace p5 := eq_true p5
     replace q5 := eq_true q5
     have HP7 := Kd.R_putg HO_0.out (x5_1 : Int) x1_1
     go_wp2_with (((with_reducible refine gate_store (t := 3) (p := 15) rfl ?_); refine store_event (t := 3) (p := 15) (v := ?vo_w8) (w1 := (wr.setCell ⟨go5, (x5_1 : Int).toNat, none⟩ (.int .i64 x1_1))) ?hg ?ho ?hn ?hr ?_; (case ho => rfl); (case hg => rfl); (case hn => rfl); (case hr => (go_simp; done)); intro w8 hw; have hg : wr.grownBy w8 (some go5) := (by rw [hw]; exact HP7.2); have hp_ : Kd.R (Kd.int .i64) 3 w8 w0.heap.size (fun k_ => (P0_ k_ ∨ w.heap.size ≤ k_)) (.slice (some ⟨go5, 0, none⟩) x0_1.length co6) y448 := (by rw [hw, Ny448.out]; exact HP7.1); clear HP7; have n0_ := Aside0.mk (hp_); have n1_ := Aside0.mk ((by rw [hw]; exact below_set (HB.out) GB5.out : Below w0.heap.size w0 w8)); have n2_ := Aside0.mk (Kept.of_grown (S := (fun k_ => P0_ k_)) hg (by repeat ((with_reducible exact HK.out))) (fun k_ e_ => (HO_0.out.1 k_ e_))); clear HO_0; clear HB; clear HK; have HO_0 := n0_; have HB := n1_; have HK := n2_; clear n0_ n1_ n2_; clear hg hw hp_))
     go_roundg k1
     case measure => have := HK1.out; omega
     case rel => exact ⟨(y448), (wrap64 (x1_1 + 1)), (wrap64 (x5_1 + 1)), (by rfl), (by rfl), H', ⟨by have := HK1.out; omega⟩, ⟨by (with_reducible repeat (apply Kd.R_drew)); exact HO_0.out⟩, ⟨by repeat ((with_reducible exact HK.out))⟩, ⟨by repeat ((with_reducible exact HB.out))⟩⟩
    ·rw [if_neg c4] at H
     exact absurd H (by simp)
   ·rw [if_neg c3] at H
    have c3b0 : decide (x5_1 < (x0_1.length : Int)) = false := decide_eq_false c3
    clear c3
    simp only [Option.some.injEq, Prod.mk.injEq] at H
    obtain ⟨rfl, rfl⟩ := H
    obtain ⟨Ao9, co9, eo9⟩ := Kd.R_slice HO_0.out
    subst eo9
    go_wp2
    go_ret
    exact ⟨by rfl, by (with_reducible repeat (apply Kd.R_drew)); exact HO_0.out, by repeat ((with_reducible exact HB.out)), by repeat ((with_reducible exact HK.out))⟩

/-! ### laws_markIntSS: function 26 -/
def laws_markIntSS.l0 : Nat → List (List Int) → Int → Int → Option (Int × List (List Int))
 | 0, _, _, _ => none
 | k + 1, x0, x1, x5 => if x5 < (x0.length : Int) then (if 0 ≤ x5 then ((laws_markIntS.f k (rd_L2 x0 x5) x1).bind fun bt => (laws_markIntSS.l0 k (x0.set x5.toNat bt.2) bt.1 (wrap64 (x5 + 1)))) else (none)) else (some (x1, x0))
def laws_markIntSS.f (k : Nat) (l0 : List (List Int)) (a1 : Int) : Option (Int × List (List Int)) := laws_markIntSS.l0 k l0 a1 0
theorem laws_markIntSS.mono_l : ∀ k, (∀ y0 y1 y2, LeO (laws_markIntSS.l0 k y0 y1 y2) (laws_markIntSS.l0 (k + 1) y0 y1 y2))
 | 0 => fun _ _ _ r h => by simp [laws_markIntSS.l0] at h
 | k + 1 => by
  have ih0 := laws_markIntSS.mono_l k
  ·intro y0 y1 y2
   unfold laws_markIntSS.l0
   repeat' first
   | (with_reducible exact laws_markIntS.mono _ _ _)
   | (with_reducible exact ih0 _ _ _)
   | (with_reducible exact LeO.refl _)
   | (with_reducible refine LeO.ite ?_ ?_)
   | (with_reducible refine LeO.bind ?_ (fun _ => ?_))
theorem laws_markIntSS.mono : ∀ a0 a1 k, LeO (laws_markIntSS.f k a0 a1) (laws_markIntSS.f (k + 1) a0 a1) := by
 intro a0 a1 k
 have ih0 := laws_markIntSS.mono_l k
 unfold laws_markIntSS.f
 exact ih0 _ _ _
set_option maxHeartbeats 8000000 in
set_option maxRecDepth 100000 in
theorem laws_markIntSS.calls (k : Nat) (P0_ : Nat → Prop) (u9000_ : Value) (l0 : List (List Int)) (a1 : Int) (r1 : Int) (r2 : List (List Int)) (w0 w : World) (hB : Below w0.heap.size w0 w) (ho0 : Kd.S (Kd.slice 3 (Kd.int .i64)) 22 w w0.heap.size P0_ u9000_ l0) (h : laws_markIntSS.f k l0 a1 = some (r1, r2)) :
  Calls Try.prog 26 #[u9000_, .int .i64 a1] w fun e w' => e = .returned (.int .i64 r1) ∧ Kd.S (Kd.slice 3 (Kd.int .i64)) 22 w' w0.heap.size P0_ u9000_ r2 ∧ Below w0.heap.size w0 w' ∧ Kept w w' (fun k_ => P0_ k_) := by
 have HO0 := Aside0.mk ho0
 have HK := Aside0.mk (Kept.refl w (fun k_ => P0_ k_))
 have HB := Aside0.mk hB
 clear hB ho0
 have H : (laws_markIntSS.l0 k l0 a1 0) = some (r1, r2) := h
 clear h
 have H' := Aside0.mk H
 clear H
 go_enter Try.func26, Try.ntmps26
 go_wp2
 go_loopg [1, 5] k (fun kq v1 v5 w' => ∃ (x0_1 : List (List Int)) (x1_1 : Int) (x5_1 : Int), v1 = .int .i64 x1_1 ∧ v5 = .int .i64 x5_1 ∧ Aside0 (laws_markIntSS.l0 kq x0_1 x1_1 x5_1 = some (r1, r2)) ∧ Aside0 (kq ≤ k) ∧ Aside0 (Kd.S (Kd.slice 3 (Kd.int .i64)) 22 w' w0.heap.size P0_ u9000_ x0_1) ∧ Aside0 (Kept w w' (fun k_ => P0_ k_)) ∧ Aside0 (Below w0.heap.size w0 w') ∧ Aside0 (x0_1.length = l0.length))
 case atStart => exact ⟨l0, a1, 0, (by rfl), (by rfl), H', ⟨Nat.le_refl _⟩, HO0, HK, HB, ⟨rfl⟩⟩
 case round =>
  clear H' HO0 HK HB
  try clear p2
  obtain ⟨x0_1, x1_1, x5_1, rfl, rfl, HA, HK1, HO_0, HK, HB, HL⟩ := hrel
  cases gk with
  | zero => exact absurd HA.out (by simp [laws_markIntSS.l0])
  | succ k1 =>
   have H := HA.out
   clear HA
   simp only [laws_markIntSS.l0] at H
   by_cases c3 : x5_1 < (x0_1.length : Int)
   ·rw [if_pos c3] at H
    by_cases c4 : 0 ≤ x5_1
    ·rw [if_pos c4] at H
     replace H := Option.bind_eq_some_iff.mp H
     obtain ⟨⟨t1_, t2_⟩, A10, H⟩ := H
     have A1 := Aside0.mk A10
     clear A10
     have H' := Aside0.mk (show laws_markIntSS.l0 k1 (x0_1.set x5_1.toNat t2_) t1_ (wrap64 (x5_1 + 1)) = some (r1, r2) from H)
     clear H
     have hlt_ : x5_1.toNat < x0_1.length := by omega
     have c3x : x5_1 < (x0_1.length : Int) := c3
     obtain ⟨g_, cap_, eu_, hgb_, hgl_, _⟩ := Kd.S_form HO_0.out (by omega)
     subst eu_
     obtain ⟨oki_, c_, hcl_, hM_, hcc_, hoki_, hH_⟩ := Kd.S_lend HO_0.out [] x5_1 c4 c3x
     obtain ⟨v_, rfl, hRi_⟩ := hM_
     have hx_ := hcc_ 0 v_ rfl
     rw [show (Kd.slice 3 (Kd.int .i64)).sz = 1 from rfl, Nat.mul_one, Nat.add_zero] at hx_
     have hrow_ : x0_1.getD x5_1.toNat [] = rd_L2 x0_1 x5_1 := rfl
     rw [hrow_] at hRi_
     have HRI := Aside0.mk hRi_
     have HH := Aside0.mk (Kd.H_widen hH_)
     have HOK := Aside0.mk hoki_
     clear hRi_ hH_ hoki_ hcc_ hcl_ hrow_
     have c3b0 : decide (x5_1 < (x0_1.length : Int)) = true := decide_eq_true c3x
     have c4b0 : decide (0 ≤ x5_1) = true := decide_eq_true c4
     have p5 : (0 ≤ (x5_1 : Int)) = True := eq_true c4
     have q5 : ((x5_1 : Int) < ((x0_1.length : Int) : Int)) = True := eq_true c3x
     have HC4 := Aside0.mk c4
     have HLT := Aside0.mk hlt_
     clear c3 c4 c3x hlt_
     have hsz_ := HK.out.1
     have HSZ := Aside0.mk hsz_
     clear hsz_
     go_wp2_with ((go_at_call 36; refine (laws_markIntS.calls k1 oki_ v_ (rd_L2 x0_1 x5_1) x1_1 t1_ t2_ w0 _ ?s1_ ?s2_ A1.out).mono ?_; (case s1_ => exact HB.out); (case s2_ => exact HRI.out); rintro e w2_ ⟨rfl, hR2_, hb2_, hk2_⟩; have HS2 := Aside0.mk (Kd.H_back (x' := t2_) (okp := oki_) (Kd.H_kept HH.out hk2_ (fun k_ _ hn_ hs_ => hn_ (.inl hs_))) ⟨v_, rfl, Kd.R_reok rfl hR2_ (fun k_ e_ => HRI.out.1 k_ e_)⟩ (fun k_ hk_ => .inl hk_)); have HK2 := Aside0.mk (Kept.then_ HK.out hk2_ (fun k_ hs_ => .inl (HOK.out k_ hs_).1)); have HB2 := Aside0.mk hb2_; clear hR2_ hk2_ hb2_ HO_0 HK HB HH HRI))
     go_roundg k1
     case measure => have := HK1.out; omega
     case rel =>
      refine ⟨x0_1.set x5_1.toNat t2_, t1_, (wrap64 (x5_1 + 1)), (by rfl), (by rfl), H', ⟨by have := HK1.out; omega⟩, HS2, HK2, HB2, ⟨by rw [List.length_set]; exact HL.out⟩⟩
    ·rw [if_neg c4] at H
     exact absurd H (by simp)
   ·rw [if_neg c3] at H
    have c3b0 : decide (x5_1 < (x0_1.length : Int)) = false := decide_eq_false c3
    clear c3
    have H2_ := Option.some.inj H
    obtain rfl : x1_1 = r1 := congrArg Prod.fst H2_
    obtain rfl : x0_1 = r2 := congrArg Prod.snd H2_
    clear H2_
    obtain ⟨Ao_, co_, eo_⟩ := Kd.S_slice HO_0.out
    have HS_ := HO_0.out
    subst eo_
    go_wp2
    go_ret
    exact ⟨by rfl, HS_, HB.out, HK.out⟩

/-! ### laws_markSpace: function 27 -/
def laws_markSpace.f (k : Nat) (a0_0 : Int) (l0_1 : List Int) (a1 : Int) : Option (Int × List Int) := (laws_markIntS.f k l0_1 a1).bind fun bt450 => (some (bt450.1, bt450.2))
theorem laws_markSpace.mono : ∀ a0 a1 a2 k, LeO (laws_markSpace.f k a0 a1 a2) (laws_markSpace.f (k + 1) a0 a1 a2) := by
 intro a0 a1 a2 k
 unfold laws_markSpace.f
 repeat' first
   | (with_reducible exact laws_markIntS.mono _ _ _)
   | (with_reducible exact LeO.refl _)
   | (with_reducible refine LeO.bind ?_ (fun _ => ?_))
set_option maxHeartbeats 8000000 in
set_option maxRecDepth 100000 in
theorem laws_markSpace.calls (k : Nat) (a0_0 : Int) (P0_1_ : Nat → Prop) (u9000_ : Value) (l0_1 : List Int) (a1 : Int) (r1 : Int) (r2 : List Int) (w0 w : World) (hB : Below w0.heap.size w0 w) (ho0_1 : Kd.R (Kd.int .i64) 3 w w0.heap.size P0_1_ u9000_ l0_1) (h : laws_markSpace.f k a0_0 l0_1 a1 = some (r1, r2)) :
  Calls Try.prog 27 #[.agg #[.int .i64 a0_0, u9000_], .int .i64 a1] w fun e w' => e = .returned (.int .i64 r1) ∧ Kd.R (Kd.int .i64) 3 w' w0.heap.size (fun k_ => (P0_1_ k_ ∨ w.heap.size ≤ k_)) u9000_ r2 ∧ Below w0.heap.size w0 w' ∧ Kept w w' (fun k_ => P0_1_ k_) := by
 have hu28 := Try.underlying28
 have HO0_1 := Aside0.mk (show Kd.R (Kd.int .i64) 3 w w0.heap.size (fun k_ => (P0_1_ k_ ∨ w.heap.size ≤ k_)) u9000_ l0_1 from Kd.R_mono ho0_1 (fun k_ hk => (.inl hk)))
 have HK := Aside0.mk (Kept.refl w (fun k_ => P0_1_ k_))
 have HW0 := Aside0.mk hB.size
 have HB := Aside0.mk hB
 clear hB
 have H : ((laws_markIntS.f k l0_1 a1).bind fun bt450 => (some (bt450.1, bt450.2))) = some (r1, r2) := h
 clear h
 replace H := Option.bind_eq_some_iff.mp H
 obtain ⟨⟨t450, t451⟩, A30, H⟩ := H
 replace H : (some (t450, t451)) = some (r1, r2) := H
 have A3 := Aside0.mk A30
 clear A30
 simp only [Option.some.injEq, Prod.mk.injEq] at H
 obtain ⟨rfl, rfl⟩ := H
 obtain ⟨Ao4, co4, eo4⟩ := Kd.R_slice HO0_1.out
 subst eo4
 go_enter Try.func27, Try.ntmps27
 go_wp2_with (first | ((with_reducible refine gate_dst (N := 2) rfl ?_); refine box_event ?hg (N := 2) ?hd (cs := #[.int .i64 a0_0, .slice Ao4 l0_1.length co4]) (t := 28) ?hr ?_; (case hd => rfl); (case hg => rfl); (case hr => (go_simp; done)); intro gb449 hg w5 hbox hb; have n0_ := Aside0.mk (Kd.R_below (by (with_reducible repeat (apply Kd.R_drew)); exact HO0_1.out) hb); have n1_ := Aside0.mk (Kept.below (S := (fun k_ => P0_1_ k_)) (by repeat ((with_reducible exact HK.out))) hb); have n2_ := Aside0.mk (below_step (by repeat ((with_reducible exact HB.out))) hb); have n3_ := Aside0.mk (hbox); have n4_ := Aside0.mk ((by rw [hg]; exact (by exact HK.out.1) : w.heap.size ≤ gb449)); have n5_ := Aside0.mk ((by rw [hg]; exact (below_size (by repeat ((with_reducible exact HB.out)))) : w0.heap.size ≤ gb449)); clear HO0_1; clear HK; clear HB; have HO0_1 := n0_; have HK := n1_; have HB := n2_; have BK449 := n3_; have GW449 := n4_; have GE449 := n5_; clear n0_ n1_ n2_ n3_ n4_ n5_; clear hb hbox hg; have hcz6_0 : w5.cell? ⟨gb449, 0, none⟩ = some (.int .i64 a0_0) := (blk_cell BK449.out 0).trans rfl; have hcz6_1 : w5.cell? ⟨gb449, 1, none⟩ = some (.slice Ao4 l0_1.length co4) := (blk_cell BK449.out 1).trans rfl; have hfz6_0 := blk_frozen BK449.out 0; have hfz6_1 := blk_frozen BK449.out 1) | ((with_reducible refine gate_callee (f := 36) rfl ?_); refine goesL_ (some 8) rfl rfl Try.func36 (by kernel_rfl) rfl #[.slice Ao4 l0_1.length co4, .int .i64 a1] rfl (by (try simp only [List.map_toArray, List.map_cons, List.map_nil]); rfl) ?_; (with_reducible refine (laws_markIntS.calls k (fun k_ => some k_ = (.slice Ao4 l0_1.length co4 : Value).ownBlock) (.slice Ao4 l0_1.length co4) l0_1 a1 t450 t451 w0 _ ?side1 ?side2 A3.out).mono ?_); (case side1 => repeat ((with_reducible exact HB.out))); (case side2 => exact Kd.R_tight rfl HO0_1.out); rintro e w7 ⟨rfl, hy0, hb, hkp⟩; refine ⟨_, rfl, ?_⟩; have n0_ := Aside0.mk (Kd.R_reok rfl hy0 (fun k_ e_ => HO0_1.out.1 k_ e_)); have n1_ := Aside0.mk (blk_kept (by (with_reducible repeat (refine blk_drew ?_)); exact BK449.out) hkp (fun hs_ => (fun e_ => (Kd.R_ne HO0_1.out BK449.out (by decide)) e_) hs_)); have n2_ := Aside0.mk (Kept.then_ (S := (fun k_ => P0_1_ k_)) (by repeat ((with_reducible exact HK.out))) hkp (fun k_ hs_ => (fun e_ => (HO0_1.out.1 k_ e_.symm)) hs_)); have n3_ := Aside0.mk (hb); clear HO0_1; clear BK449; clear HK; clear HB; have HO0_1 := n0_; have BK449 := n1_; have HK := n2_; have HB := n3_; clear n0_ n1_ n2_ n3_; (try clear hb); (try clear hkp); (try clear hy0)))
 go_ret
 exact ⟨by rfl, by (with_reducible repeat (apply Kd.R_drew)); exact HO0_1.out, by repeat ((with_reducible exact HB.out)), by repeat ((with_reducible exact HK.out))⟩

/-! ### laws_heldIntS: function 37 -/
def laws_heldIntS.l0 : Nat → List Int → Int → Int → Option (Int)
 | 0, _, _, _ => none
 | k + 1, x0, x1, x5 => if x5 < (x0.length : Int) then (if 0 ≤ x5 then (if (rd x0 x5) = x1 then (laws_heldIntS.l0 k x0 (wrap64 (x1 + 1)) (wrap64 (x5 + 1))) else (some (-1))) else (none)) else (some x1)
def laws_heldIntS.f (k : Nat) (l0 : List Int) (a1 : Int) : Option (Int) := laws_heldIntS.l0 k l0 a1 0
theorem laws_heldIntS.mono_l : ∀ k, (∀ y0 y1 y2, LeO (laws_heldIntS.l0 k y0 y1 y2) (laws_heldIntS.l0 (k + 1) y0 y1 y2))
 | 0 => fun _ _ _ r h => by simp [laws_heldIntS.l0] at h
 | k + 1 => by
  have ih0 := laws_heldIntS.mono_l k
  ·intro y0 y1 y2
   unfold laws_heldIntS.l0
   repeat' first
   | (with_reducible exact ih0 _ _ _)
   | (with_reducible exact LeO.refl _)
   | (with_reducible refine LeO.ite ?_ ?_)
theorem laws_heldIntS.mono : ∀ a0 a1 k, LeO (laws_heldIntS.f k a0 a1) (laws_heldIntS.f (k + 1) a0 a1) := by
 intro a0 a1 k
 have ih0 := laws_heldIntS.mono_l k
 unfold laws_heldIntS.f
 repeat' first
   | (with_reducible exact ih0 _ _ _)
set_option maxHeartbeats 8000000 in
set_option maxRecDepth 100000 in
theorem laws_heldIntS.calls (k : Nat) (A0 : Option Addr) (c0 : Nat) (l0 : List Int) (a1 : Int) (r : Int) (w : World) (hr0 : Kd.C (Kd.int .i64) w A0 l0.length l0) (hc0 : l0.length ≤ c0) (h : laws_heldIntS.f k l0 a1 = some r) :
  Calls Try.prog 37 #[.slice A0 l0.length c0, .int .i64 a1] w fun e w' => e = .returned (.int .i64 r) ∧ Drawn0 w w' := by
 have HR0 := Aside0.mk hr0
 have HC0 := Aside0.mk hc0
 clear hr0 hc0
 have H : (laws_heldIntS.l0 k l0 a1 0) = some r := h
 clear h
 have H' := Aside0.mk H
 clear H
 go_enter Try.func37, Try.ntmps37
 go_wp2
 go_loopg [1, 5] k (fun kq v1 v5 w' => ∃ (x1_1 : Int) (x5_1 : Int), v1 = .int .i64 x1_1 ∧ v5 = .int .i64 x5_1 ∧ Aside0 (laws_heldIntS.l0 kq l0 x1_1 x5_1 = some r) ∧ Aside0 (kq ≤ k) ∧ Drawn0 w w')
 case atStart => exact ⟨(a1), (0), (by rfl), (by rfl), H', ⟨Nat.le_refl _⟩, by repeat (exact Drawn0.refl _)⟩
 case round =>
  clear H'
  try clear p2
  obtain ⟨x1_1, x5_1, rfl, rfl, HA, HK1, ⟨m1, rfl⟩⟩ := hrel
  cases gk with
  | zero => exact absurd HA.out (by simp [laws_heldIntS.l0])
  | succ k1 =>
   have H := HA.out
   clear HA
   simp only [laws_heldIntS.l0] at H
   by_cases c3 : x5_1 < (l0.length : Int)
   ·rw [if_pos c3] at H
    have c3b0 : decide (x5_1 < (l0.length : Int)) = true := decide_eq_true c3
    clear c3
    by_cases c4 : 0 ≤ x5_1
    ·rw [if_pos c4] at H
     have c4b0 : decide (0 ≤ x5_1) = true := decide_eq_true c4
     clear c4
     by_cases c5 : (rd l0 x5_1) = x1_1
     ·rw [if_pos c5] at H
      have c5b0 : ((rd l0 x5_1) == x1_1) = true := beq_iff_eq.mpr c5
      have c5b1 : ((rd l0 x5_1) != x1_1) = false := bne_eq_false_iff_eq.mpr c5
      clear c5
      have H' := Aside0.mk H
      clear H
      have p452 : 0 ≤ (x5_1 : Int) := of_decide_eq_true (by (with_reducible assumption))
      have q452 : x5_1 < (l0.length : Int) := of_decide_eq_true (by (with_reducible assumption))
      obtain ⟨ad452, e452, hx452_0⟩ := Kd.at_int HR0.out x5_1 p452 q452
      cases e452
      replace p452 := eq_true p452
      replace q452 := eq_true q452
      go_wp2
      go_roundg k1
      case measure => have := HK1.out; omega
      case rel => exact ⟨(wrap64 (x1_1 + 1)), (wrap64 (x5_1 + 1)), (by rfl), (by rfl), H', ⟨by have := HK1.out; omega⟩, by repeat (first | exact Drawn0.refl _ | apply Drawn0.step)⟩
     ·rw [if_neg c5] at H
      have c5b0 : ((rd l0 x5_1) == x1_1) = false := beq_eq_false_iff_ne.mpr c5
      have c5b1 : ((rd l0 x5_1) != x1_1) = true := bne_iff_ne.mpr c5
      obtain rfl := Option.some.inj H
      have p452 : 0 ≤ (x5_1 : Int) := of_decide_eq_true (by (with_reducible assumption))
      have q452 : x5_1 < (l0.length : Int) := of_decide_eq_true (by (with_reducible assumption))
      obtain ⟨ad452, e452, hx452_0⟩ := Kd.at_int HR0.out x5_1 p452 q452
      cases e452
      replace p452 := eq_true p452
      replace q452 := eq_true q452
      go_wp2
      go_ret
      exact ⟨by rfl, by repeat (first | exact Drawn0.refl _ | apply Drawn0.step)⟩
    ·rw [if_neg c4] at H
     exact absurd H (by simp)
   ·rw [if_neg c3] at H
    have c3b0 : decide (x5_1 < (l0.length : Int)) = false := decide_eq_false c3
    clear c3
    obtain rfl := Option.some.inj H
    go_wp2
    go_ret
    exact ⟨by rfl, by repeat (first | exact Drawn0.refl _ | apply Drawn0.step)⟩

/-! ### laws_heldSpace: function 28 -/
def laws_heldSpace.f (k : Nat) (a0_0 : Int) (l0_1 : List Int) (a1 : Int) : Option (Int) := (laws_heldIntS.f k l0_1 a1).bind fun t454 => (if t454 < 0 then (some (-1)) else (some t454))
theorem laws_heldSpace.mono : ∀ a0 a1 a2 k, LeO (laws_heldSpace.f k a0 a1 a2) (laws_heldSpace.f (k + 1) a0 a1 a2) := by
 intro a0 a1 a2 k
 unfold laws_heldSpace.f
 repeat' first
   | (with_reducible exact laws_heldIntS.mono _ _ _)
   | (with_reducible exact LeO.refl _)
   | (with_reducible refine LeO.bind ?_ (fun _ => ?_))
set_option maxHeartbeats 8000000 in
set_option maxRecDepth 100000 in
theorem laws_heldSpace.calls (k : Nat) (a0_0 : Int) (A0_1 : Option Addr) (c0_1 : Nat) (l0_1 : List Int) (a1 : Int) (r : Int) (w : World) (hr0_1 : Kd.C (Kd.int .i64) w A0_1 l0_1.length l0_1) (hc0_1 : l0_1.length ≤ c0_1) (h : laws_heldSpace.f k a0_0 l0_1 a1 = some r) :
  Calls Try.prog 28 #[.agg #[.int .i64 a0_0, .slice A0_1 l0_1.length c0_1], .int .i64 a1] w fun e w' => e = .returned (.int .i64 r) ∧ Below w.heap.size w w' := by
 have hu28 := Try.underlying28
 have HR0_1 := Aside0.mk hr0_1
 have HC0_1 := Aside0.mk hc0_1
 clear hr0_1 hc0_1
 have HB := Aside0.mk (Below.refl w.heap.size w)
 have H : ((laws_heldIntS.f k l0_1 a1).bind fun t454 => (if t454 < 0 then (some (-1)) else (some t454))) = some r := h
 clear h
 replace H := Option.bind_eq_some_iff.mp H
 obtain ⟨t454, A30, H⟩ := H
 replace H : (if t454 < 0 then (some (-1)) else (some t454)) = some r := H
 have A3 := Aside0.mk A30
 clear A30
 by_cases c4 : t454 < 0
 ·rw [if_pos c4] at H
  have c4b0 : decide (t454 < 0) = true := decide_eq_true c4
  clear c4
  obtain rfl := Option.some.inj H
  go_enter Try.func28, Try.ntmps28
  go_wp2_with (first | ((with_reducible refine gate_dst (N := 2) rfl ?_); refine box_event ?hg (N := 2) ?hd (cs := #[.int .i64 a0_0, .slice A0_1 l0_1.length c0_1]) (t := 28) ?hr ?_; (case hd => rfl); (case hg => rfl); (case hr => (go_simp; done)); intro gb453 hg w5 hbox hb; have n0_ := Aside0.mk (below_step (by repeat ((with_reducible exact HB.out))) hb); have n1_ := Aside0.mk (hbox); have n2_ := Aside0.mk ((by rw [hg]; exact (below_size (by repeat ((with_reducible exact HB.out)))) : w.heap.size ≤ gb453)); have n3_ := Aside0.mk ((by rw [hg]; exact (below_size (by repeat ((with_reducible exact HB.out)))) : w.heap.size ≤ gb453)); clear HB; have HB := n0_; have BK453 := n1_; have GW453 := n2_; have GE453 := n3_; clear n0_ n1_ n2_ n3_; clear hb hbox hg; have hcz6_0 : w5.cell? ⟨gb453, 0, none⟩ = some (.int .i64 a0_0) := (blk_cell BK453.out 0).trans rfl; have hcz6_1 : w5.cell? ⟨gb453, 1, none⟩ = some (.slice A0_1 l0_1.length c0_1) := (blk_cell BK453.out 1).trans rfl; have hfz6_0 := blk_frozen BK453.out 0; have hfz6_1 := blk_frozen BK453.out 1) | ((with_reducible refine gate_callee (f := 37) rfl ?_); refine goesL_ (some 8) rfl rfl Try.func37 (by kernel_rfl) rfl #[.slice A0_1 l0_1.length c0_1, .int .i64 a1] rfl (by (try simp only [List.map_toArray, List.map_cons, List.map_nil]); rfl) ?_; (with_reducible refine (laws_heldIntS.calls k _ _ l0_1 a1 t454 _ ?side1 ?side2 A3.out).mono ?_); (case side1 => repeat (exact (Kd.C_below HR0_1.out HB.out))); (case side2 => exact HC0_1.out); rintro e w' ⟨rfl, ⟨nd, rfl⟩⟩; refine ⟨_, rfl, ?_⟩))
  go_ret
  exact ⟨by rfl, by repeat ((with_reducible first | exact HB.out | apply pw_below_drewN))⟩
 ·rw [if_neg c4] at H
  have c4b0 : decide (t454 < 0) = false := decide_eq_false c4
  clear c4
  obtain rfl := Option.some.inj H
  go_enter Try.func28, Try.ntmps28
  go_wp2_with (first | ((with_reducible refine gate_dst (N := 2) rfl ?_); refine box_event ?hg (N := 2) ?hd (cs := #[.int .i64 a0_0, .slice A0_1 l0_1.length c0_1]) (t := 28) ?hr ?_; (case hd => rfl); (case hg => rfl); (case hr => (go_simp; done)); intro gb453 hg w7 hbox hb; have n0_ := Aside0.mk (below_step (by repeat ((with_reducible exact HB.out))) hb); have n1_ := Aside0.mk (hbox); have n2_ := Aside0.mk ((by rw [hg]; exact (below_size (by repeat ((with_reducible exact HB.out)))) : w.heap.size ≤ gb453)); have n3_ := Aside0.mk ((by rw [hg]; exact (below_size (by repeat ((with_reducible exact HB.out)))) : w.heap.size ≤ gb453)); clear HB; have HB := n0_; have BK453 := n1_; have GW453 := n2_; have GE453 := n3_; clear n0_ n1_ n2_ n3_; clear hb hbox hg; have hcz8_0 : w7.cell? ⟨gb453, 0, none⟩ = some (.int .i64 a0_0) := (blk_cell BK453.out 0).trans rfl; have hcz8_1 : w7.cell? ⟨gb453, 1, none⟩ = some (.slice A0_1 l0_1.length c0_1) := (blk_cell BK453.out 1).trans rfl; have hfz8_0 := blk_frozen BK453.out 0; have hfz8_1 := blk_frozen BK453.out 1) | ((with_reducible refine gate_callee (f := 37) rfl ?_); refine goesL_ (some 8) rfl rfl Try.func37 (by kernel_rfl) rfl #[.slice A0_1 l0_1.length c0_1, .int .i64 a1] rfl (by (try simp only [List.map_toArray, List.map_cons, List.map_nil]); rfl) ?_; (with_reducible refine (laws_heldIntS.calls k _ _ l0_1 a1 t454 _ ?side1 ?side2 A3.out).mono ?_); (case side1 => repeat (exact (Kd.C_below HR0_1.out HB.out))); (case side2 => exact HC0_1.out); rintro e w' ⟨rfl, ⟨nd, rfl⟩⟩; refine ⟨_, rfl, ?_⟩))
  go_ret
  exact ⟨by rfl, by repeat ((with_reducible first | exact HB.out | apply pw_below_drewN))⟩

end Go.Proofs.Ytekllaaohagefaa.P
