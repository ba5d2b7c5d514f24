/- Functions of the program as plain Lean functions, each with a proof that the Go code computes it; written by a program of this session. Conditions: as each theorem states. -/
import Derived.Test.YthpbmecinoninaaCFnExactSpaceWithP3
namespace Go.Proofs.Ythpbmecinoninaa.P
open Go.RowKit Go.Proofs.YthpbmecinoninaaW.PrintWords Go.Proofs.YthpbmecinoninaaW.PrintLast Go.Proofs.YthpbmecinoninaaW.PrintMore
attribute [local go_sem] max2_int min2_int max_two min_two max_three min_three max_four min_four   -- for this text's walks alone
set_option linter.unusedVariables false
set_option linter.unusedSimpArgs false

/-! ### laws_FnExactSpaceWith: function 12 -/
mutual
def laws_FnExactSpaceWith.j0 : Nat → Int → List Int → Bool → List Int → Bool → Bool → Int → List Int → Int → List Int → Option (Bool)
  | 0, _, _, _, _, _, _, _, _, _, _ => none
  | k + 1, x0, x1, x6, x7, x9, x41, x851000, x851001, x860000, x860001 => if x41 = true then (some false) else ((laws_toIntS.f k x1).bind fun t861 => ((laws_eqIntS.f k x7 t861).bind fun t864 => (if t864 = true then ((laws_markIntS.f k x7 1).bind fun bt865 => (if bt865.1 < 0 then (laws_FnExactSpaceWith.j1 k x0 x1 x6 true x851000 x851001 x860000 x860001) else ((laws_eqSpace.f k x860000 x860001 x851000 x851001).bind fun t867 => (if t867 = true then (laws_FnExactSpaceWith.j1 k x0 x1 x6 (x9 != x6) x851000 x851001 x860000 x860001) else (laws_FnExactSpaceWith.j1 k x0 x1 x6 true x851000 x851001 x860000 x860001))))) else (some false))))
def laws_FnExactSpaceWith.j1 : Nat → Int → List Int → Bool → Bool → Int → List Int → Int → List Int → Option (Bool)
  | 0, _, _, _, _, _, _, _, _ => none
  | k + 1, x0, x1, x6, x62, x851000, x851001, x860000, x860001 => if x62 = true then (some false) else ((laws_markSpace.f k x860000 x860001 1).bind fun bt868 => ((laws_heldSpace.f k x860000 bt868.2 1).bind fun t870 => (if t870 < 0 then (some false) else (if t870 = bt868.1 then ((laws_toIntS.f k x1).bind fun t871 => ((impl_SpaceWith.f k x0 t871).bind fun bt874 => ((laws_eqSpace.f k bt874.1 bt874.2.1 x851000 x851001).bind fun t880 => (if t880 = true then (laws_FnExactSpaceWith.j2 k bt868.1 (bt874.2.2 != x6) x860000 bt868.2) else (laws_FnExactSpaceWith.j2 k bt868.1 true x860000 bt868.2))))) else (some false)))))
def laws_FnExactSpaceWith.j2 : Nat → Int → Bool → Int → List Int → Option (Bool)
  | 0, _, _, _, _ => none
  | k + 1, x11, x89, x860000, x860001 => if x89 = true then (some false) else ((laws_heldSpace.f k x860000 x860001 1).bind fun t881 => (if t881 < 0 then (some false) else (if t881 = x11 then (some true) else (some false))))
end
def laws_FnExactSpaceWith.f (k : Nat) (a0 : Int) (l1 : List Int) : Option (Bool) := if (l1.length : Int) > 1048576 then (some true) else ((laws_toIntS.f k l1).bind fun t842 => ((spec_SpaceWith.f k a0 t842).bind fun bt845 => ((laws_toIntS.f k l1).bind fun t851 => ((impl_SpaceWith.f k a0 t851).bind fun bt854 => ((laws_eqSpace.f k bt854.1 bt854.2.1 bt845.1 bt845.2.1).bind fun t860 => (if t860 = true then (laws_FnExactSpaceWith.j0 k a0 l1 bt845.2.2 t851 bt854.2.2 (bt854.2.2 != bt845.2.2) bt845.1 bt845.2.1 bt854.1 bt854.2.1) else (laws_FnExactSpaceWith.j0 k a0 l1 bt845.2.2 t851 bt854.2.2 true bt845.1 bt845.2.1 bt854.1 bt854.2.1)))))))
theorem laws_FnExactSpaceWith.mono_l : ∀ k, (∀ y0 y1 y2 y3 y4 y5 y6 y7 y8 y9, LeO (laws_FnExactSpaceWith.j0 k y0 y1 y2 y3 y4 y5 y6 y7 y8 y9) (laws_FnExactSpaceWith.j0 (k + 1) y0 y1 y2 y3 y4 y5 y6 y7 y8 y9)) ∧ (∀ y0 y1 y2 y3 y4 y5 y6 y7, LeO (laws_FnExactSpaceWith.j1 k y0 y1 y2 y3 y4 y5 y6 y7) (laws_FnExactSpaceWith.j1 (k + 1) y0 y1 y2 y3 y4 y5 y6 y7)) ∧ (∀ y0 y1 y2 y3, LeO (laws_FnExactSpaceWith.j2 k y0 y1 y2 y3) (laws_FnExactSpaceWith.j2 (k + 1) y0 y1 y2 y3))
  | 0 => ⟨fun _ _ _ _ _ _ _ _ _ _ r h => by simp [laws_FnExactSpaceWith.j0] at h, fun _ _ _ _ _ _ _ _ r h => by simp [laws_FnExactSpaceWith.j1] at h, fun _ _ _ _ r h => by simp [laws_FnExactSpaceWith.j2] at h⟩
  | k + 1 => by
    obtain ⟨ih0, ih1, ih2⟩ := laws_FnExactSpaceWith.mono_l k
    refine ⟨?_, ?_, ?_⟩
    · intro y0 y1 y2 y3 y4 y5 y6 y7 y8 y9
      unfold laws_FnExactSpaceWith.j0
      repeat' first
      | (with_reducible exact ih0 _ _ _ _ _ _ _ _ _ _)
      | (with_reducible exact ih1 _ _ _ _ _ _ _ _)
      | (with_reducible exact ih2 _ _ _ _)
      | (with_reducible exact impl_SpaceWith.mono _ _ _)
      | (with_reducible exact laws_eqIntS.mono _ _ _)
      | (with_reducible exact laws_eqSpace.mono _ _ _ _ _)
      | (with_reducible exact laws_heldSpace.mono _ _ _ _)
      | (with_reducible exact laws_markIntS.mono _ _ _)
      | (with_reducible exact laws_markSpace.mono _ _ _ _)
      | (with_reducible exact laws_toIntS.mono _ _)
      | (with_reducible exact spec_SpaceWith.mono _ _ _)
      | (with_reducible exact LeO.refl _)
      | (with_reducible exact LeO.none _)
      | (with_reducible refine LeO.ite ?_ ?_)
      | (with_reducible refine LeO.bind ?_ (fun _ => ?_))
      | exact ih0 _ _ _ _ _ _ _ _ _ _
      | exact ih1 _ _ _ _ _ _ _ _
      | exact ih2 _ _ _ _
      | exact impl_SpaceWith.mono _ _ _
      | exact laws_eqIntS.mono _ _ _
      | exact laws_eqSpace.mono _ _ _ _ _
      | exact laws_heldSpace.mono _ _ _ _
      | exact laws_markIntS.mono _ _ _
      | exact laws_markSpace.mono _ _ _ _
      | exact laws_toIntS.mono _ _
      | exact spec_SpaceWith.mono _ _ _
      | exact LeO.none _
      | refine LeO.ite ?_ ?_
      | refine LeO.bind ?_ (fun _ => ?_)
    · intro y0 y1 y2 y3 y4 y5 y6 y7
      unfold laws_FnExactSpaceWith.j1
      repeat' first
      | (with_reducible exact ih0 _ _ _ _ _ _ _ _ _ _)
      | (with_reducible exact ih1 _ _ _ _ _ _ _ _)
      | (with_reducible exact ih2 _ _ _ _)
      | (with_reducible exact impl_SpaceWith.mono _ _ _)
      | (with_reducible exact laws_eqIntS.mono _ _ _)
      | (with_reducible exact laws_eqSpace.mono _ _ _ _ _)
      | (with_reducible exact laws_heldSpace.mono _ _ _ _)
      | (with_reducible exact laws_markIntS.mono _ _ _)
      | (with_reducible exact laws_markSpace.mono _ _ _ _)
      | (with_reducible exact laws_toIntS.mono _ _)
      | (with_reducible exact spec_SpaceWith.mono _ _ _)
      | (with_reducible exact LeO.refl _)
      | (with_reducible exact LeO.none _)
      | (with_reducible refine LeO.ite ?_ ?_)
      | (with_reducible refine LeO.bind ?_ (fun _ => ?_))
      | exact ih0 _ _ _ _ _ _ _ _ _ _
      | exact ih1 _ _ _ _ _ _ _ _
      | exact ih2 _ _ _ _
      | exact impl_SpaceWith.mono _ _ _
      | exact laws_eqIntS.mono _ _ _
      | exact laws_eqSpace.mono _ _ _ _ _
      | exact laws_heldSpace.mono _ _ _ _
      | exact laws_markIntS.mono _ _ _
      | exact laws_markSpace.mono _ _ _ _
      | exact laws_toIntS.mono _ _
      | exact spec_SpaceWith.mono _ _ _
      | exact LeO.none _
      | refine LeO.ite ?_ ?_
      | refine LeO.bind ?_ (fun _ => ?_)
    · intro y0 y1 y2 y3
      unfold laws_FnExactSpaceWith.j2
      repeat' first
      | (with_reducible exact ih0 _ _ _ _ _ _ _ _ _ _)
      | (with_reducible exact ih1 _ _ _ _ _ _ _ _)
      | (with_reducible exact ih2 _ _ _ _)
      | (with_reducible exact impl_SpaceWith.mono _ _ _)
      | (with_reducible exact laws_eqIntS.mono _ _ _)
      | (with_reducible exact laws_eqSpace.mono _ _ _ _ _)
      | (with_reducible exact laws_heldSpace.mono _ _ _ _)
      | (with_reducible exact laws_markIntS.mono _ _ _)
      | (with_reducible exact laws_markSpace.mono _ _ _ _)
      | (with_reducible exact laws_toIntS.mono _ _)
      | (with_reducible exact spec_SpaceWith.mono _ _ _)
      | (with_reducible exact LeO.refl _)
      | (with_reducible exact LeO.none _)
      | (with_reducible refine LeO.ite ?_ ?_)
      | (with_reducible refine LeO.bind ?_ (fun _ => ?_))
      | exact ih0 _ _ _ _ _ _ _ _ _ _
      | exact ih1 _ _ _ _ _ _ _ _
      | exact ih2 _ _ _ _
      | exact impl_SpaceWith.mono _ _ _
      | exact laws_eqIntS.mono _ _ _
      | exact laws_eqSpace.mono _ _ _ _ _
      | exact laws_heldSpace.mono _ _ _ _
      | exact laws_markIntS.mono _ _ _
      | exact laws_markSpace.mono _ _ _ _
      | exact laws_toIntS.mono _ _
      | exact spec_SpaceWith.mono _ _ _
      | exact LeO.none _
      | refine LeO.ite ?_ ?_
      | refine LeO.bind ?_ (fun _ => ?_)
theorem laws_FnExactSpaceWith.mono : ∀ a0 a1 k, LeO (laws_FnExactSpaceWith.f k a0 a1) (laws_FnExactSpaceWith.f (k + 1) a0 a1) := by
  intro a0 a1 k
  obtain ⟨ih0, ih1, ih2⟩ := laws_FnExactSpaceWith.mono_l k
  unfold laws_FnExactSpaceWith.f
  repeat' first
      | (with_reducible exact ih0 _ _ _ _ _ _ _ _ _ _)
      | (with_reducible exact ih1 _ _ _ _ _ _ _ _)
      | (with_reducible exact ih2 _ _ _ _)
      | (with_reducible exact impl_SpaceWith.mono _ _ _)
      | (with_reducible exact laws_eqIntS.mono _ _ _)
      | (with_reducible exact laws_eqSpace.mono _ _ _ _ _)
      | (with_reducible exact laws_heldSpace.mono _ _ _ _)
      | (with_reducible exact laws_markIntS.mono _ _ _)
      | (with_reducible exact laws_markSpace.mono _ _ _ _)
      | (with_reducible exact laws_toIntS.mono _ _)
      | (with_reducible exact spec_SpaceWith.mono _ _ _)
      | (with_reducible exact LeO.refl _)
      | (with_reducible exact LeO.none _)
      | (with_reducible refine LeO.ite ?_ ?_)
      | (with_reducible refine LeO.bind ?_ (fun _ => ?_))
      | exact ih0 _ _ _ _ _ _ _ _ _ _
      | exact ih1 _ _ _ _ _ _ _ _
      | exact ih2 _ _ _ _
      | exact impl_SpaceWith.mono _ _ _
      | exact laws_eqIntS.mono _ _ _
      | exact laws_eqSpace.mono _ _ _ _ _
      | exact laws_heldSpace.mono _ _ _ _
      | exact laws_markIntS.mono _ _ _
      | exact laws_markSpace.mono _ _ _ _
      | exact laws_toIntS.mono _ _
      | exact spec_SpaceWith.mono _ _ _
      | exact LeO.none _
      | refine LeO.ite ?_ ?_
      | refine LeO.bind ?_ (fun _ => ?_)
set_option maxHeartbeats 8000000 in
set_option maxRecDepth 100000 in
theorem laws_FnExactSpaceWith.calls (k : Nat) (a0 : Int) (A1 : Option Addr) (c1 : Nat) (l1 : List Int) (r : Bool) (w : World) (hr1 : Kd.C (Kd.int .i64) w A1 l1.length l1) (hc1 : l1.length ≤ c1) (h : laws_FnExactSpaceWith.f k a0 l1 = some r) :
    Calls Try.prog 12 #[.int .i64 a0, .slice A1 l1.length c1] w fun e w' => e = .returned (.bool r) ∧ Below w.heap.size w w' := by
  have hu37 := Try.underlying37
  have HR1 := Aside0.mk hr1
  have HC1 := Aside0.mk hc1
  clear hr1 hc1
  have HB := Aside0.mk (Below.refl w.heap.size w)
  have H : (if (l1.length : Int) > 1048576 then (some true) else ((laws_toIntS.f k l1).bind fun t842 => ((spec_SpaceWith.f k a0 t842).bind fun bt845 => ((laws_toIntS.f k l1).bind fun t851 => ((impl_SpaceWith.f k a0 t851).bind fun bt854 => ((laws_eqSpace.f k bt854.1 bt854.2.1 bt845.1 bt845.2.1).bind fun t860 => (if t860 = true then (laws_FnExactSpaceWith.j0 k a0 l1 bt845.2.2 t851 bt854.2.2 (bt854.2.2 != bt845.2.2) bt845.1 bt845.2.1 bt854.1 bt854.2.1) else (laws_FnExactSpaceWith.j0 k a0 l1 bt845.2.2 t851 bt854.2.2 true bt845.1 bt845.2.1 bt854.1 bt854.2.1)))))))) = some r := h
  clear h
  by_cases c3 : (l1.length : Int) > 1048576
  · rw [if_pos c3] at H
    have c3b0 : decide (1048576 < (l1.length : Int)) = true := decide_eq_true c3
    have c3b1 : decide (1048576 < l1.length) = true := decide_eq_true (by omega)
    clear c3
    obtain rfl := Option.some.inj H
    go_enter Try.func12, Try.ntmps12
    go_wp2
    go_ret
    exact ⟨by first | rfl | (simp [errW_none, errW_some] <;> rfl) | (simp [*, errW_none, errW_some] <;> rfl), by repeat (first | (with_reducible first | exact HB.out | apply below_alloc | apply pw_below_drewN | apply below_drew1) | exact HB.out)⟩
  · rw [if_neg c3] at H
    have c3b0 : decide (1048576 < (l1.length : Int)) = false := decide_eq_false c3
    have c3b1 : decide (1048576 < l1.length) = false := decide_eq_false (by omega)
    clear c3
    replace H := Option.bind_eq_some_iff.mp H
    obtain ⟨t842, A40, H⟩ := H
    replace H : ((spec_SpaceWith.f k a0 t842).bind fun bt845 => ((laws_toIntS.f k l1).bind fun t851 => ((impl_SpaceWith.f k a0 t851).bind fun bt854 => ((laws_eqSpace.f k bt854.1 bt854.2.1 bt845.1 bt845.2.1).bind fun t860 => (if t860 = true then (laws_FnExactSpaceWith.j0 k a0 l1 bt845.2.2 t851 bt854.2.2 (bt854.2.2 != bt845.2.2) bt845.1 bt845.2.1 bt854.1 bt854.2.1) else (laws_FnExactSpaceWith.j0 k a0 l1 bt845.2.2 t851 bt854.2.2 true bt845.1 bt845.2.1 bt854.1 bt854.2.1)))))) = some r := H
    have A4 := Aside0.mk A40
    clear A40
    replace H := Option.bind_eq_some_iff.mp H
    obtain ⟨⟨t845, t846, t849⟩, A50, H⟩ := H
    replace H : ((laws_toIntS.f k l1).bind fun t851 => ((impl_SpaceWith.f k a0 t851).bind fun bt854 => ((laws_eqSpace.f k bt854.1 bt854.2.1 t845 t846).bind fun t860 => (if t860 = true then (laws_FnExactSpaceWith.j0 k a0 l1 t849 t851 bt854.2.2 (bt854.2.2 != t849) t845 t846 bt854.1 bt854.2.1) else (laws_FnExactSpaceWith.j0 k a0 l1 t849 t851 bt854.2.2 true t845 t846 bt854.1 bt854.2.1))))) = some r := H
    have A5 := Aside0.mk A50
    clear A50
    replace H := Option.bind_eq_some_iff.mp H
    obtain ⟨t851, A60, H⟩ := H
    replace H : ((impl_SpaceWith.f k a0 t851).bind fun bt854 => ((laws_eqSpace.f k bt854.1 bt854.2.1 t845 t846).bind fun t860 => (if t860 = true then (laws_FnExactSpaceWith.j0 k a0 l1 t849 t851 bt854.2.2 (bt854.2.2 != t849) t845 t846 bt854.1 bt854.2.1) else (laws_FnExactSpaceWith.j0 k a0 l1 t849 t851 bt854.2.2 true t845 t846 bt854.1 bt854.2.1)))) = some r := H
    have A6 := Aside0.mk A60
    clear A60
    replace H := Option.bind_eq_some_iff.mp H
    obtain ⟨⟨t854, t855, t858⟩, A70, H⟩ := H
    replace H : ((laws_eqSpace.f k t854 t855 t845 t846).bind fun t860 => (if t860 = true then (laws_FnExactSpaceWith.j0 k a0 l1 t849 t851 t858 (t858 != t849) t845 t846 t854 t855) else (laws_FnExactSpaceWith.j0 k a0 l1 t849 t851 t858 true t845 t846 t854 t855))) = some r := H
    have A7 := Aside0.mk A70
    clear A70
    have HC8 := Aside0.mk H
    clear H
    go_enter Try.func12, Try.ntmps12
    go_upto_region 6 with (first | ((with_reducible refine gate_callee (f := 49) rfl ?_); refine goesL_ (some 21) rfl rfl Try.func49 (by kernel_rfl) rfl #[.slice A1 l1.length c1] rfl (by (try simp only [List.map_toArray, List.map_cons, List.map_nil]); first | done | rfl | (simp only [List.length_drop, List.length_take]; rfl)) ?_; (with_reducible refine (laws_toIntS.calls k _ _ l1 t842 _ ?side1 ?side2 A4.out).mono ?_); (case side1 => repeat (first | exact HR1.out | (with_reducible refine Kd.C_alloc ?_ _) | (with_reducible refine Kd.C_drewN ?_ _) | (with_reducible refine Kd.C_drew ?_))); (case side2 => exact HC1.out); rintro e w9 ⟨v843, rfl, ho0, hb⟩; refine ⟨_, rfl, ?_⟩; have n0_ := Aside0.mk (Kd.R_lower ho0 (below_size (by repeat (first | (with_reducible first | exact HB.out | apply below_alloc | apply pw_below_drewN | apply below_drew1) | exact HB.out)))); have n1_ := Aside0.mk (below_step (by repeat (first | (with_reducible first | exact HB.out | apply below_alloc | apply pw_below_drewN | apply below_drew1) | exact HB.out)) hb); clear HB; have HO844 := n0_; have HB := n1_; clear n0_ n1_; (try clear hb); (try clear hb2); (try clear hk); (try clear hi); (try clear ho0); obtain ⟨Ao10, co10, eo10⟩ := Kd.R_slice HO844.out; subst eo10) | ((with_reducible refine gate_callee (f := 48) rfl ?_); refine goesL_ (some 22) rfl rfl Try.func48 (by kernel_rfl) rfl #[.int .i64 a0, .slice Ao10 t842.length co10] rfl (by (try simp only [List.map_toArray, List.map_cons, List.map_nil]); first | done | rfl | (simp only [List.length_drop, List.length_take]; rfl)) ?_; (with_reducible refine (spec_SpaceWith.calls k a0 _ _ t842 t845 t846 t849 _ ?side1 ?side2 A5.out).mono ?_); (case side1 => repeat (first | exact (Kd.R_reads' HO844.out).2.2 | (with_reducible refine Kd.C_alloc ?_ _) | (with_reducible refine Kd.C_drewN ?_ _) | (with_reducible refine Kd.C_drew ?_))); (case side2 => exact (Kd.R_reads' HO844.out).2.1); rintro e w11 ⟨v847, rfl, ho0, hb⟩; refine ⟨_, rfl, ?_⟩; have n0_ := Aside0.mk (Kd.R_elder' (by (with_reducible repeat (first | apply Kd.R_alloc | apply Kd.R_drewN | apply Kd.R_drew)); exact HO844.out) (Kd.R_base ho0) hb); have n1_ := Aside0.mk (Kd.R_lower (Kd.R_new' ho0 (Kd.R_lt (by (with_reducible repeat (first | apply Kd.R_alloc | apply Kd.R_drewN | apply Kd.R_drew)); exact HO844.out))) (below_size (by repeat (first | (with_reducible first | exact HB.out | apply below_alloc | apply pw_below_drewN | apply below_drew1) | exact HB.out)))); have n2_ := Aside0.mk (below_step (by repeat (first | (with_reducible first | exact HB.out | apply below_alloc | apply pw_below_drewN | apply below_drew1) | exact HB.out)) hb); clear HO844; clear HB; have HO844 := n0_; have HO848 := n1_; have HB := n2_; clear n0_ n1_ n2_; (try clear hb); (try clear hb2); (try clear hk); (try clear hi); (try clear ho0)) | ((with_reducible refine gate_dst (N := 5) rfl ?_); refine box_event ?hg (N := 5) ?hd (cs := #[.int .i64 0, .slice none 0 0]) (t := 37) ?hr ?_; (case hd => rfl); (case hg => rfl); (case hr => first | (go_simp; done) | (go_simp; rfl)); intro gb850 hg w12 hbox hb; have n0_ := Aside0.mk (Kd.R_below (by (with_reducible repeat (first | apply Kd.R_alloc | apply Kd.R_drewN | apply Kd.R_drew)); exact HO844.out) hb); have n1_ := Aside0.mk (Kd.R_below (by (with_reducible repeat (first | apply Kd.R_alloc | apply Kd.R_drewN | apply Kd.R_drew)); exact HO848.out) hb); have n2_ := Aside0.mk (below_step (by repeat (first | (with_reducible first | exact HB.out | apply below_alloc | apply pw_below_drewN | apply below_drew1) | exact HB.out)) hb); have n3_ := Aside0.mk (hbox); have n4_ := Aside0.mk ((by rw [hg]; exact (below_size (by repeat (first | (with_reducible first | exact HB.out | apply below_alloc | apply pw_below_drewN | apply below_drew1) | exact HB.out))) : w.heap.size ≤ gb850)); have n5_ := Aside0.mk ((by rw [hg]; exact (below_size (by repeat (first | (with_reducible first | exact HB.out | apply below_alloc | apply pw_below_drewN | apply below_drew1) | exact HB.out))) : w.heap.size ≤ gb850)); clear HO844; clear HO848; clear HB; have HO844 := n0_; have HO848 := n1_; have HB := n2_; have BK850 := n3_; have GW850 := n4_; have GE850 := n5_; clear n0_ n1_ n2_ n3_ n4_ n5_; clear hb hbox hg; have hcz13_0 : w12.cell? ⟨gb850, 0, none⟩ = some (.int .i64 0) := (blk_cell BK850.out 0).trans rfl; have hcz13_1 : w12.cell? ⟨gb850, 1, none⟩ = some (.slice none 0 0) := (blk_cell BK850.out 1).trans rfl; have hfz13_0 := blk_frozen BK850.out 0; have hfz13_1 := blk_frozen BK850.out 1; obtain ⟨Ao14, co14, eo14⟩ := Kd.R_slice HO848.out; subst eo14) | ((with_reducible refine gate_callee (f := 49) rfl ?_); refine goesL_ (some 26) rfl rfl Try.func49 (by kernel_rfl) rfl #[.slice A1 l1.length c1] rfl (by (try simp only [List.map_toArray, List.map_cons, List.map_nil]); first | done | rfl | (simp only [List.length_drop, List.length_take]; rfl)) ?_; (with_reducible refine (laws_toIntS.calls k _ _ l1 t851 _ ?side1 ?side2 A6.out).mono ?_); (case side1 => exact Kd.C_below HR1.out (by repeat (first | (with_reducible first | exact HB.out | apply below_alloc | apply pw_below_drewN | apply below_drew1 | refine below_set ?_ GE850.out) | exact HB.out))); (case side2 => exact HC1.out); rintro e w15 ⟨v852, rfl, ho0, hb⟩; refine ⟨_, rfl, ?_⟩; have n0_ := Aside0.mk (Kd.R_elder' (by (with_reducible repeat (first | apply Kd.R_alloc | apply Kd.R_drewN | apply Kd.R_drew)); exact (Kd.R_mono (Kd.R_far (p := ⟨gb850, 1, none⟩) (Kd.R_far (p := ⟨gb850, 0, none⟩) (Kd.R_types HO844.out BK850.out (by decide)) (fun _ hk => hk.2) (.int .i64 t845)) (fun _ hk => hk.2) (.slice Ao14 t846.length co14)) (fun _ h_ => h_.1))) (Kd.R_base ho0) hb); have n1_ := Aside0.mk (Kd.R_elder' (by (with_reducible repeat (first | apply Kd.R_alloc | apply Kd.R_drewN | apply Kd.R_drew)); exact (Kd.R_mono (Kd.R_far (p := ⟨gb850, 1, none⟩) (Kd.R_far (p := ⟨gb850, 0, none⟩) (Kd.R_types HO848.out BK850.out (by decide)) (fun _ hk => hk.2) (.int .i64 t845)) (fun _ hk => hk.2) (.slice Ao14 t846.length co14)) (fun _ h_ => h_.1))) (Kd.R_base ho0) hb); have n2_ := Aside0.mk (Kd.R_lower (Kd.R_new' (Kd.R_new' ho0 (Kd.R_lt (by (with_reducible repeat (first | apply Kd.R_alloc | apply Kd.R_drewN | apply Kd.R_drew)); exact (Kd.R_mono (Kd.R_far (p := ⟨gb850, 1, none⟩) (Kd.R_far (p := ⟨gb850, 0, none⟩) (Kd.R_types HO844.out BK850.out (by decide)) (fun _ hk => hk.2) (.int .i64 t845)) (fun _ hk => hk.2) (.slice Ao14 t846.length co14)) (fun _ h_ => h_.1))))) (Kd.R_lt (by (with_reducible repeat (first | apply Kd.R_alloc | apply Kd.R_drewN | apply Kd.R_drew)); exact (Kd.R_mono (Kd.R_far (p := ⟨gb850, 1, none⟩) (Kd.R_far (p := ⟨gb850, 0, none⟩) (Kd.R_types HO848.out BK850.out (by decide)) (fun _ hk => hk.2) (.int .i64 t845)) (fun _ hk => hk.2) (.slice Ao14 t846.length co14)) (fun _ h_ => h_.1))))) (below_size (by repeat (first | (with_reducible first | exact HB.out | apply below_alloc | apply pw_below_drewN | apply below_drew1 | refine below_set ?_ GE850.out) | exact HB.out)))); have n3_ := Aside0.mk (blk_below (g := gb850) (o := .cells #[.int .i64 t845, .slice Ao14 t846.length co14] 37 (0, 0)) (by (with_reducible repeat (first | refine blk_drewN ?_ _ | refine blk_drew ?_ | refine blk_alloc ?_ _)); refine blk_put (cs := #[.int .i64 t845, .slice none 0 0]) ?_ 1 _ rfl; (with_reducible repeat (first | refine blk_drewN ?_ _ | refine blk_drew ?_ | refine blk_alloc ?_ _)); refine blk_put (cs := #[.int .i64 0, .slice none 0 0]) ?_ 0 _ rfl; (with_reducible repeat (first | refine blk_drewN ?_ _ | refine blk_drew ?_ | refine blk_alloc ?_ _)); exact BK850.out) hb); have n4_ := Aside0.mk (below_step (by repeat (first | (with_reducible first | exact HB.out | apply below_alloc | apply pw_below_drewN | apply below_drew1 | refine below_set ?_ GE850.out) | exact HB.out)) hb); clear HO844; clear HO848; clear BK850; clear HB; have HO844 := n0_; have HO848 := n1_; have HO853 := n2_; have BK850 := n3_; have HB := n4_; clear n0_ n1_ n2_ n3_ n4_; (try clear hb); (try clear hb2); (try clear hk); (try clear hi); (try clear ho0); obtain ⟨Ao16, co16, eo16⟩ := Kd.R_slice HO853.out; subst eo16) | ((with_reducible refine gate_callee (f := 50) rfl ?_); refine goesL_ (some 30) rfl rfl Try.func50 (by kernel_rfl) rfl #[.int .i64 a0, .slice Ao16 t851.length co16] rfl (by (try simp only [List.map_toArray, List.map_cons, List.map_nil]); first | done | rfl | (simp only [List.length_drop, List.length_take]; rfl)) ?_; (with_reducible refine (impl_SpaceWith.calls k a0 _ _ t851 t854 t855 t858 _ ?side1 ?side2 A7.out).mono ?_); (case side1 => repeat (first | exact (Kd.R_reads' HO853.out).2.2 | (with_reducible refine Kd.C_alloc ?_ _) | (with_reducible refine Kd.C_drewN ?_ _) | (with_reducible refine Kd.C_drew ?_))); (case side2 => exact (Kd.R_reads' HO853.out).2.1); rintro e w17 ⟨v856, rfl, ho0, hb⟩; refine ⟨_, rfl, ?_⟩; have n0_ := Aside0.mk (Kd.R_elder' (by (with_reducible repeat (first | apply Kd.R_alloc | apply Kd.R_drewN | apply Kd.R_drew)); exact HO844.out) (Kd.R_base ho0) hb); have n1_ := Aside0.mk (Kd.R_elder' (by (with_reducible repeat (first | apply Kd.R_alloc | apply Kd.R_drewN | apply Kd.R_drew)); exact HO848.out) (Kd.R_base ho0) hb); have n2_ := Aside0.mk (Kd.R_elder' (by (with_reducible repeat (first | apply Kd.R_alloc | apply Kd.R_drewN | apply Kd.R_drew)); exact HO853.out) (Kd.R_base ho0) hb); have n3_ := Aside0.mk (Kd.R_lower (Kd.R_new' (Kd.R_new' (Kd.R_new' ho0 (Kd.R_lt (by (with_reducible repeat (first | apply Kd.R_alloc | apply Kd.R_drewN | apply Kd.R_drew)); exact HO844.out))) (Kd.R_lt (by (with_reducible repeat (first | apply Kd.R_alloc | apply Kd.R_drewN | apply Kd.R_drew)); exact HO848.out))) (Kd.R_lt (by (with_reducible repeat (first | apply Kd.R_alloc | apply Kd.R_drewN | apply Kd.R_drew)); exact HO853.out))) (below_size (by repeat (first | (with_reducible first | exact HB.out | apply below_alloc | apply pw_below_drewN | apply below_drew1 | refine below_set ?_ GE850.out) | exact HB.out)))); have n4_ := Aside0.mk (blk_below (g := gb850) (o := .cells #[.int .i64 t845, .slice Ao14 t846.length co14] 37 (0, 0)) (by (with_reducible repeat (first | refine blk_drewN ?_ _ | refine blk_drew ?_ | refine blk_alloc ?_ _)); exact BK850.out) hb); have n5_ := Aside0.mk (below_step (by repeat (first | (with_reducible first | exact HB.out | apply below_alloc | apply pw_below_drewN | apply below_drew1 | refine below_set ?_ GE850.out) | exact HB.out)) hb); clear HO844; clear HO848; clear HO853; clear BK850; clear HB; have HO844 := n0_; have HO848 := n1_; have HO853 := n2_; have HO857 := n3_; have BK850 := n4_; have HB := n5_; clear n0_ n1_ n2_ n3_ n4_ n5_; (try clear hb); (try clear hb2); (try clear hk); (try clear hi); (try clear ho0)) | ((with_reducible refine gate_dst (N := 8) rfl ?_); refine box_event ?hg (N := 8) ?hd (cs := #[.int .i64 0, .slice none 0 0]) (t := 37) ?hr ?_; (case hd => rfl); (case hg => rfl); (case hr => first | (go_simp; done) | (go_simp; rfl)); intro gb859 hg w18 hbox hb; have n0_ := Aside0.mk (Kd.R_below (by (with_reducible repeat (first | apply Kd.R_alloc | apply Kd.R_drewN | apply Kd.R_drew)); exact HO844.out) hb); have n1_ := Aside0.mk (Kd.R_below (by (with_reducible repeat (first | apply Kd.R_alloc | apply Kd.R_drewN | apply Kd.R_drew)); exact HO848.out) hb); have n2_ := Aside0.mk (Kd.R_below (by (with_reducible repeat (first | apply Kd.R_alloc | apply Kd.R_drewN | apply Kd.R_drew)); exact HO853.out) hb); have n3_ := Aside0.mk (Kd.R_below (by (with_reducible repeat (first | apply Kd.R_alloc | apply Kd.R_drewN | apply Kd.R_drew)); exact HO857.out) hb); have n4_ := Aside0.mk (blk_below (g := gb850) (o := .cells #[.int .i64 t845, .slice Ao14 t846.length co14] 37 (0, 0)) (by (with_reducible repeat (first | refine blk_drewN ?_ _ | refine blk_drew ?_ | refine blk_alloc ?_ _)); exact BK850.out) hb); have n5_ := Aside0.mk (below_step (by repeat (first | (with_reducible first | exact HB.out | apply below_alloc | apply pw_below_drewN | apply below_drew1 | refine below_set ?_ GE850.out) | exact HB.out)) hb); have n6_ := Aside0.mk (hbox); have n7_ := Aside0.mk ((by rw [hg]; exact (below_size (by repeat (first | (with_reducible first | exact HB.out | apply below_alloc | apply pw_below_drewN | apply below_drew1 | refine below_set ?_ GE850.out) | exact HB.out))) : w.heap.size ≤ gb859)); have n8_ := Aside0.mk ((by rw [hg]; exact (below_size (by repeat (first | (with_reducible first | exact HB.out | apply below_alloc | apply pw_below_drewN | apply below_drew1 | refine below_set ?_ GE850.out) | exact HB.out))) : w.heap.size ≤ gb859)); have n9_ := Aside0.mk ((by rw [hg]; exact Nat.ne_of_lt (blk_lt (g := gb850) (o := .cells #[.int .i64 t845, .slice Ao14 t846.length co14] 37 (0, 0)) (by (with_reducible repeat (first | refine blk_drewN ?_ _ | refine blk_drew ?_ | refine blk_alloc ?_ _)); exact BK850.out)) : gb850 ≠ gb859)); have n10_ := Aside0.mk ((by rw [hg]; exact Nat.ne_of_gt (blk_lt (g := gb850) (o := .cells #[.int .i64 t845, .slice Ao14 t846.length co14] 37 (0, 0)) (by (with_reducible repeat (first | refine blk_drewN ?_ _ | refine blk_drew ?_ | refine blk_alloc ?_ _)); exact BK850.out)) : gb859 ≠ gb850)); clear HO844; clear HO848; clear HO853; clear HO857; clear BK850; clear HB; have HO844 := n0_; have HO848 := n1_; have HO853 := n2_; have HO857 := n3_; have BK850 := n4_; have HB := n5_; have BK859 := n6_; have GW859 := n7_; have GE859 := n8_; have NB850_859 := n9_; have NB859_850 := n10_; clear n0_ n1_ n2_ n3_ n4_ n5_ n6_ n7_ n8_ n9_ n10_; clear hb hbox hg; have hnb19 := NB859_850.out; have hnc19 := NB850_859.out; have hcz20_0 : w18.cell? ⟨gb859, 0, none⟩ = some (.int .i64 0) := (blk_cell BK859.out 0).trans rfl; have hcz20_1 : w18.cell? ⟨gb859, 1, none⟩ = some (.slice none 0 0) := (blk_cell BK859.out 1).trans rfl; have hfz20_0 := blk_frozen BK859.out 0; have hfz20_1 := blk_frozen BK859.out 1; obtain ⟨Ao21, co21, eo21⟩ := Kd.R_slice HO857.out; subst eo21))
    (try simp only [Act.put, List.setIfInBounds_toArray, List.set_cons_zero, List.set_cons_succ])
    go_cut [41] (fun v41 wc => ∃ (kq : Nat) (x41_7 : Bool), v41 = .bool x41_7 ∧ Aside0 (laws_FnExactSpaceWith.j0 kq a0 l1 t849 t851 t858 x41_7 t845 t846 t854 t855 = some r) ∧ Aside0 (kq ≤ k) ∧ Aside0 (Kd.R (Kd.int .i64) 3 wc w.heap.size (fun k_ => some k_ ≠ ((.slice Ao14 t846.length co14) : Value).ownBlock ∧ some k_ ≠ ((.slice Ao21 t855.length co21) : Value).ownBlock) (.slice Ao16 t851.length co16) t851) ∧ Aside0 (Kd.R (Kd.int .i64) 3 wc w.heap.size (fun k_ => some k_ ≠ ((.slice Ao16 t851.length co16) : Value).ownBlock ∧ some k_ ≠ ((.slice Ao21 t855.length co21) : Value).ownBlock) (.slice Ao14 t846.length co14) t846) ∧ Aside0 (Kd.R (Kd.int .i64) 3 wc w.heap.size (fun k_ => some k_ ≠ ((.slice Ao16 t851.length co16) : Value).ownBlock ∧ some k_ ≠ ((.slice Ao14 t846.length co14) : Value).ownBlock) (.slice Ao21 t855.length co21) t855) ∧ Aside0 (wc.heap[gb850]? = some (.cells #[.int .i64 t845, (.slice Ao14 t846.length co14)] 37 (0, 0))) ∧ Aside0 (wc.heap[gb859]? = some (.cells #[.int .i64 t854, (.slice Ao21 t855.length co21)] 37 (0, 0))) ∧ Aside0 (Below w.heap.size w wc))
    case first =>
      have H := HC8.out
      clear HC8
      replace H := Option.bind_eq_some_iff.mp H
      obtain ⟨t860, A220, H⟩ := H
      replace H : (if t860 = true then (laws_FnExactSpaceWith.j0 k a0 l1 t849 t851 t858 (t858 != t849) t845 t846 t854 t855) else (laws_FnExactSpaceWith.j0 k a0 l1 t849 t851 t858 true t845 t846 t854 t855)) = some r := H
      have A22 := Aside0.mk A220
      clear A220
      by_cases c23 : t860 = true
      · subst c23
        have H1 : (laws_FnExactSpaceWith.j0 k a0 l1 t849 t851 t858 (t858 != t849) t845 t846 t854 t855) = some r := by rw [if_pos rfl] at H; exact H
        clear H
        have H := H1
        clear H1
        have H' := Aside0.mk H
        clear H
        have hnb24 := NB859_850.out
        have hnc24 := NB850_859.out
        have hcz25_0 : w18.cell? ⟨gb859, 0, none⟩ = some (.int .i64 0) := (blk_cell BK859.out 0).trans rfl
        have hcz25_1 : w18.cell? ⟨gb859, 1, none⟩ = some (.slice none 0 0) := (blk_cell BK859.out 1).trans rfl
        have hfz25_0 := blk_frozen BK859.out 0
        have hfz25_1 := blk_frozen BK859.out 1
        have hcz26_0 : w18.cell? ⟨gb850, 0, none⟩ = some (.int .i64 t845) := (blk_cell BK850.out 0).trans rfl
        have hcz26_1 : w18.cell? ⟨gb850, 1, none⟩ = some (.slice Ao14 t846.length co14) := (blk_cell BK850.out 1).trans rfl
        have hfz26_0 := blk_frozen BK850.out 0
        have hfz26_1 := blk_frozen BK850.out 1
        go_wp2_with (first | ((with_reducible refine gate_callee (f := 24) rfl ?_); refine goesL_ (some 35) rfl rfl Try.func24 (by kernel_rfl) rfl #[.agg #[.int .i64 t854, .slice Ao21 t855.length co21], .agg #[.int .i64 t845, .slice Ao14 t846.length co14]] rfl (by (try simp only [List.map_toArray, List.map_cons, List.map_nil]); first | done | rfl | (simp only [List.length_drop, List.length_take]; rfl)) ?_; (with_reducible refine (laws_eqSpace.calls k t854 _ _ t855 t845 _ _ t846 true _ ?side1 ?side2 ?side3 ?side4 A22.out).mono ?_); (case side1 => refine (Kd.R_reads' (e := 3) (base := w.heap.size) (ok := fun k_ => (((True ∧ some k_ ≠ (.slice Ao10 t842.length co10 : Value).ownBlock) ∧ some k_ ≠ (.slice Ao14 t846.length co14 : Value).ownBlock) ∧ some k_ ≠ (.slice Ao16 t851.length co16 : Value).ownBlock)) (n := t855.length) (c := co21) ?_).2.2; exact (by (with_reducible repeat (first | apply Kd.R_alloc | apply Kd.R_drewN | apply Kd.R_drew)); exact (Kd.R_mono (Kd.R_far (p := ⟨gb859, 1, none⟩) (Kd.R_far (p := ⟨gb859, 0, none⟩) (Kd.R_types HO857.out BK859.out (by decide)) (fun _ hk => hk.2) (.int .i64 t854)) (fun _ hk => hk.2) (.slice Ao21 t855.length co21)) (fun _ h_ => h_.1)))); (case side2 => exact (Kd.R_reads' HO857.out).2.1); (case side3 => refine (Kd.R_reads' (e := 3) (base := w.heap.size) (ok := fun k_ => (((True ∧ some k_ ≠ (.slice Ao10 t842.length co10 : Value).ownBlock) ∧ some k_ ≠ (.slice Ao16 t851.length co16 : Value).ownBlock) ∧ some k_ ≠ (.slice Ao21 t855.length co21 : Value).ownBlock)) (n := t846.length) (c := co14) ?_).2.2; exact (by (with_reducible repeat (first | apply Kd.R_alloc | apply Kd.R_drewN | apply Kd.R_drew)); exact (Kd.R_mono (Kd.R_far (p := ⟨gb859, 1, none⟩) (Kd.R_far (p := ⟨gb859, 0, none⟩) (Kd.R_types HO848.out BK859.out (by decide)) (fun _ hk => hk.2) (.int .i64 t854)) (fun _ hk => hk.2) (.slice Ao21 t855.length co21)) (fun _ h_ => h_.1)))); (case side4 => exact (Kd.R_reads' HO848.out).2.1); rintro e w27 ⟨rfl, hb⟩; refine ⟨_, rfl, ?_⟩; have n0_ := Aside0.mk (Kd.R_below (by (with_reducible repeat (first | apply Kd.R_alloc | apply Kd.R_drewN | apply Kd.R_drew)); exact (Kd.R_mono (Kd.R_far (p := ⟨gb859, 1, none⟩) (Kd.R_far (p := ⟨gb859, 0, none⟩) (Kd.R_types HO844.out BK859.out (by decide)) (fun _ hk => hk.2) (.int .i64 t854)) (fun _ hk => hk.2) (.slice Ao21 t855.length co21)) (fun _ h_ => h_.1))) hb); have n1_ := Aside0.mk (Kd.R_below (by (with_reducible repeat (first | apply Kd.R_alloc | apply Kd.R_drewN | apply Kd.R_drew)); exact (Kd.R_mono (Kd.R_far (p := ⟨gb859, 1, none⟩) (Kd.R_far (p := ⟨gb859, 0, none⟩) (Kd.R_types HO848.out BK859.out (by decide)) (fun _ hk => hk.2) (.int .i64 t854)) (fun _ hk => hk.2) (.slice Ao21 t855.length co21)) (fun _ h_ => h_.1))) hb); have n2_ := Aside0.mk (Kd.R_below (by (with_reducible repeat (first | apply Kd.R_alloc | apply Kd.R_drewN | apply Kd.R_drew)); exact (Kd.R_mono (Kd.R_far (p := ⟨gb859, 1, none⟩) (Kd.R_far (p := ⟨gb859, 0, none⟩) (Kd.R_types HO853.out BK859.out (by decide)) (fun _ hk => hk.2) (.int .i64 t854)) (fun _ hk => hk.2) (.slice Ao21 t855.length co21)) (fun _ h_ => h_.1))) hb); have n3_ := Aside0.mk (Kd.R_below (by (with_reducible repeat (first | apply Kd.R_alloc | apply Kd.R_drewN | apply Kd.R_drew)); exact (Kd.R_mono (Kd.R_far (p := ⟨gb859, 1, none⟩) (Kd.R_far (p := ⟨gb859, 0, none⟩) (Kd.R_types HO857.out BK859.out (by decide)) (fun _ hk => hk.2) (.int .i64 t854)) (fun _ hk => hk.2) (.slice Ao21 t855.length co21)) (fun _ h_ => h_.1))) hb); have n4_ := Aside0.mk (blk_below (g := gb850) (o := .cells #[.int .i64 t845, .slice Ao14 t846.length co14] 37 (0, 0)) (by (with_reducible repeat (first | refine blk_drewN ?_ _ | refine blk_drew ?_ | refine blk_alloc ?_ _)); refine blk_far ?_ NB850_859.out _; (with_reducible repeat (first | refine blk_drewN ?_ _ | refine blk_drew ?_ | refine blk_alloc ?_ _)); refine blk_far ?_ NB850_859.out _; (with_reducible repeat (first | refine blk_drewN ?_ _ | refine blk_drew ?_ | refine blk_alloc ?_ _)); exact BK850.out) hb); have n5_ := Aside0.mk (blk_below (g := gb859) (o := .cells #[.int .i64 t854, .slice Ao21 t855.length co21] 37 (0, 0)) (by (with_reducible repeat (first | refine blk_drewN ?_ _ | refine blk_drew ?_ | refine blk_alloc ?_ _)); refine blk_put (cs := #[.int .i64 t854, .slice none 0 0]) ?_ 1 _ rfl; (with_reducible repeat (first | refine blk_drewN ?_ _ | refine blk_drew ?_ | refine blk_alloc ?_ _)); refine blk_put (cs := #[.int .i64 0, .slice none 0 0]) ?_ 0 _ rfl; (with_reducible repeat (first | refine blk_drewN ?_ _ | refine blk_drew ?_ | refine blk_alloc ?_ _)); exact BK859.out) hb); have n6_ := Aside0.mk (below_step (by repeat (first | (with_reducible first | exact HB.out | apply below_alloc | apply pw_below_drewN | apply below_drew1 | refine below_set ?_ GE850.out | refine below_set ?_ GE859.out) | exact HB.out)) hb); clear HO844; clear HO848; clear HO853; clear HO857; clear BK850; clear BK859; clear HB; have HO844 := n0_; have HO848 := n1_; have HO853 := n2_; have HO857 := n3_; have BK850 := n4_; have BK859 := n5_; have HB := n6_; clear n0_ n1_ n2_ n3_ n4_ n5_ n6_; (try clear hb); (try clear hb2); (try clear hk); (try clear hi)))
        go_meet
        case rel => exact ⟨_, ((t858 != t849)), (by first | rfl | (simp; done) | (simp [*]; done)), H', ⟨by first | omega | exact Nat.le_refl _⟩, ⟨by (with_reducible repeat (first | apply Kd.R_alloc | apply Kd.R_drewN | apply Kd.R_drew)); exact Kd.R_mono HO853.out (fun _ hk => ⟨hk.1.2, hk.2⟩)⟩, ⟨by (with_reducible repeat (first | apply Kd.R_alloc | apply Kd.R_drewN | apply Kd.R_drew)); exact Kd.R_mono HO848.out (fun _ hk => ⟨hk.1.2, hk.2⟩)⟩, ⟨by (with_reducible repeat (first | apply Kd.R_alloc | apply Kd.R_drewN | apply Kd.R_drew)); exact Kd.R_mono HO857.out (fun _ hk => ⟨hk.2, hk.1.2⟩)⟩, ⟨by (with_reducible repeat (first | refine blk_drewN ?_ _ | refine blk_drew ?_ | refine blk_alloc ?_ _)); exact BK850.out⟩, ⟨by (with_reducible repeat (first | refine blk_drewN ?_ _ | refine blk_drew ?_ | refine blk_alloc ?_ _)); exact BK859.out⟩, ⟨by repeat (first | (with_reducible first | exact HB.out | apply below_alloc | apply pw_below_drewN | apply below_drew1 | refine below_set ?_ GE850.out | refine below_set ?_ GE859.out) | exact HB.out)⟩⟩
      · replace c23 := Bool.eq_false_iff.mpr c23
        subst c23
        have H1 : (laws_FnExactSpaceWith.j0 k a0 l1 t849 t851 t858 true t845 t846 t854 t855) = some r := by rw [if_neg (show ¬ (false = true) by decide)] at H; exact H
        clear H
        have H := H1
        clear H1
        have H' := Aside0.mk H
        clear H
        have hnb28 := NB859_850.out
        have hnc28 := NB850_859.out
        have hcz29_0 : w18.cell? ⟨gb859, 0, none⟩ = some (.int .i64 0) := (blk_cell BK859.out 0).trans rfl
        have hcz29_1 : w18.cell? ⟨gb859, 1, none⟩ = some (.slice none 0 0) := (blk_cell BK859.out 1).trans rfl
        have hfz29_0 := blk_frozen BK859.out 0
        have hfz29_1 := blk_frozen BK859.out 1
        have hcz30_0 : w18.cell? ⟨gb850, 0, none⟩ = some (.int .i64 t845) := (blk_cell BK850.out 0).trans rfl
        have hcz30_1 : w18.cell? ⟨gb850, 1, none⟩ = some (.slice Ao14 t846.length co14) := (blk_cell BK850.out 1).trans rfl
        have hfz30_0 := blk_frozen BK850.out 0
        have hfz30_1 := blk_frozen BK850.out 1
        go_wp2_with (first | ((with_reducible refine gate_callee (f := 24) rfl ?_); refine goesL_ (some 35) rfl rfl Try.func24 (by kernel_rfl) rfl #[.agg #[.int .i64 t854, .slice Ao21 t855.length co21], .agg #[.int .i64 t845, .slice Ao14 t846.length co14]] rfl (by (try simp only [List.map_toArray, List.map_cons, List.map_nil]); first | done | rfl | (simp only [List.length_drop, List.length_take]; rfl)) ?_; (with_reducible refine (laws_eqSpace.calls k t854 _ _ t855 t845 _ _ t846 false _ ?side1 ?side2 ?side3 ?side4 A22.out).mono ?_); (case side1 => refine (Kd.R_reads' (e := 3) (base := w.heap.size) (ok := fun k_ => (((True ∧ some k_ ≠ (.slice Ao10 t842.length co10 : Value).ownBlock) ∧ some k_ ≠ (.slice Ao14 t846.length co14 : Value).ownBlock) ∧ some k_ ≠ (.slice Ao16 t851.length co16 : Value).ownBlock)) (n := t855.length) (c := co21) ?_).2.2; exact (by (with_reducible repeat (first | apply Kd.R_alloc | apply Kd.R_drewN | apply Kd.R_drew)); exact (Kd.R_mono (Kd.R_far (p := ⟨gb859, 1, none⟩) (Kd.R_far (p := ⟨gb859, 0, none⟩) (Kd.R_types HO857.out BK859.out (by decide)) (fun _ hk => hk.2) (.int .i64 t854)) (fun _ hk => hk.2) (.slice Ao21 t855.length co21)) (fun _ h_ => h_.1)))); (case side2 => exact (Kd.R_reads' HO857.out).2.1); (case side3 => refine (Kd.R_reads' (e := 3) (base := w.heap.size) (ok := fun k_ => (((True ∧ some k_ ≠ (.slice Ao10 t842.length co10 : Value).ownBlock) ∧ some k_ ≠ (.slice Ao16 t851.length co16 : Value).ownBlock) ∧ some k_ ≠ (.slice Ao21 t855.length co21 : Value).ownBlock)) (n := t846.length) (c := co14) ?_).2.2; exact (by (with_reducible repeat (first | apply Kd.R_alloc | apply Kd.R_drewN | apply Kd.R_drew)); exact (Kd.R_mono (Kd.R_far (p := ⟨gb859, 1, none⟩) (Kd.R_far (p := ⟨gb859, 0, none⟩) (Kd.R_types HO848.out BK859.out (by decide)) (fun _ hk => hk.2) (.int .i64 t854)) (fun _ hk => hk.2) (.slice Ao21 t855.length co21)) (fun _ h_ => h_.1)))); (case side4 => exact (Kd.R_reads' HO848.out).2.1); rintro e w31 ⟨rfl, hb⟩; refine ⟨_, rfl, ?_⟩; have n0_ := Aside0.mk (Kd.R_below (by (with_reducible repeat (first | apply Kd.R_alloc | apply Kd.R_drewN | apply Kd.R_drew)); exact (Kd.R_mono (Kd.R_far (p := ⟨gb859, 1, none⟩) (Kd.R_far (p := ⟨gb859, 0, none⟩) (Kd.R_types HO844.out BK859.out (by decide)) (fun _ hk => hk.2) (.int .i64 t854)) (fun _ hk => hk.2) (.slice Ao21 t855.length co21)) (fun _ h_ => h_.1))) hb); have n1_ := Aside0.mk (Kd.R_below (by (with_reducible repeat (first | apply Kd.R_alloc | apply Kd.R_drewN | apply Kd.R_drew)); exact (Kd.R_mono (Kd.R_far (p := ⟨gb859, 1, none⟩) (Kd.R_far (p := ⟨gb859, 0, none⟩) (Kd.R_types HO848.out BK859.out (by decide)) (fun _ hk => hk.2) (.int .i64 t854)) (fun _ hk => hk.2) (.slice Ao21 t855.length co21)) (fun _ h_ => h_.1))) hb); have n2_ := Aside0.mk (Kd.R_below (by (with_reducible repeat (first | apply Kd.R_alloc | apply Kd.R_drewN | apply Kd.R_drew)); exact (Kd.R_mono (Kd.R_far (p := ⟨gb859, 1, none⟩) (Kd.R_far (p := ⟨gb859, 0, none⟩) (Kd.R_types HO853.out BK859.out (by decide)) (fun _ hk => hk.2) (.int .i64 t854)) (fun _ hk => hk.2) (.slice Ao21 t855.length co21)) (fun _ h_ => h_.1))) hb); have n3_ := Aside0.mk (Kd.R_below (by (with_reducible repeat (first | apply Kd.R_alloc | apply Kd.R_drewN | apply Kd.R_drew)); exact (Kd.R_mono (Kd.R_far (p := ⟨gb859, 1, none⟩) (Kd.R_far (p := ⟨gb859, 0, none⟩) (Kd.R_types HO857.out BK859.out (by decide)) (fun _ hk => hk.2) (.int .i64 t854)) (fun _ hk => hk.2) (.slice Ao21 t855.length co21)) (fun _ h_ => h_.1))) hb); have n4_ := Aside0.mk (blk_below (g := gb850) (o := .cells #[.int .i64 t845, .slice Ao14 t846.length co14] 37 (0, 0)) (by (with_reducible repeat (first | refine blk_drewN ?_ _ | refine blk_drew ?_ | refine blk_alloc ?_ _)); refine blk_far ?_ NB850_859.out _; (with_reducible repeat (first | refine blk_drewN ?_ _ | refine blk_drew ?_ | refine blk_alloc ?_ _)); refine blk_far ?_ NB850_859.out _; (with_reducible repeat (first | refine blk_drewN ?_ _ | refine blk_drew ?_ | refine blk_alloc ?_ _)); exact BK850.out) hb); have n5_ := Aside0.mk (blk_below (g := gb859) (o := .cells #[.int .i64 t854, .slice Ao21 t855.length co21] 37 (0, 0)) (by (with_reducible repeat (first | refine blk_drewN ?_ _ | refine blk_drew ?_ | refine blk_alloc ?_ _)); refine blk_put (cs := #[.int .i64 t854, .slice none 0 0]) ?_ 1 _ rfl; (with_reducible repeat (first | refine blk_drewN ?_ _ | refine blk_drew ?_ | refine blk_alloc ?_ _)); refine blk_put (cs := #[.int .i64 0, .slice none 0 0]) ?_ 0 _ rfl; (with_reducible repeat (first | refine blk_drewN ?_ _ | refine blk_drew ?_ | refine blk_alloc ?_ _)); exact BK859.out) hb); have n6_ := Aside0.mk (below_step (by repeat (first | (with_reducible first | exact HB.out | apply below_alloc | apply pw_below_drewN | apply below_drew1 | refine below_set ?_ GE850.out | refine below_set ?_ GE859.out) | exact HB.out)) hb); clear HO844; clear HO848; clear HO853; clear HO857; clear BK850; clear BK859; clear HB; have HO844 := n0_; have HO848 := n1_; have HO853 := n2_; have HO857 := n3_; have BK850 := n4_; have BK859 := n5_; have HB := n6_; clear n0_ n1_ n2_ n3_ n4_ n5_ n6_; (try clear hb); (try clear hb2); (try clear hk); (try clear hi)))
        go_meet
        case rel => exact ⟨_, (true), (by first | rfl | (simp; done) | (simp [*]; done)), H', ⟨by first | omega | exact Nat.le_refl _⟩, ⟨by (with_reducible repeat (first | apply Kd.R_alloc | apply Kd.R_drewN | apply Kd.R_drew)); exact Kd.R_mono HO853.out (fun _ hk => ⟨hk.1.2, hk.2⟩)⟩, ⟨by (with_reducible repeat (first | apply Kd.R_alloc | apply Kd.R_drewN | apply Kd.R_drew)); exact Kd.R_mono HO848.out (fun _ hk => ⟨hk.1.2, hk.2⟩)⟩, ⟨by (with_reducible repeat (first | apply Kd.R_alloc | apply Kd.R_drewN | apply Kd.R_drew)); exact Kd.R_mono HO857.out (fun _ hk => ⟨hk.2, hk.1.2⟩)⟩, ⟨by (with_reducible repeat (first | refine blk_drewN ?_ _ | refine blk_drew ?_ | refine blk_alloc ?_ _)); exact BK850.out⟩, ⟨by (with_reducible repeat (first | refine blk_drewN ?_ _ | refine blk_drew ?_ | refine blk_alloc ?_ _)); exact BK859.out⟩, ⟨by repeat (first | (with_reducible first | exact HB.out | apply below_alloc | apply pw_below_drewN | apply below_drew1 | refine below_set ?_ GE850.out | refine below_set ?_ GE859.out) | exact HB.out)⟩⟩
    case rest =>
      clear HC8
      try clear c1
      try clear c2
      try clear p2
      try clear c3
      try clear c3b0
      try clear c3b1
      try clear c4
      try clear c5
      try clear c12
      try clear c19
      try clear c23
      try clear c24
      try clear c28
      try clear hcz13_0
      try clear hcz13_1
      try clear hcz20_0
      try clear hcz20_1
      try clear hcz25_0
      try clear hcz25_1
      try clear hcz26_0
      try clear hcz26_1
      try clear hcz29_0
      try clear hcz29_1
      try clear hcz30_0
      try clear hcz30_1
      try clear hfz13_0
      try clear hfz13_1
      try clear hfz20_0
      try clear hfz20_1
      try clear hfz25_0
      try clear hfz25_1
      try clear hfz26_0
      try clear hfz26_1
      try clear hfz29_0
      try clear hfz29_1
      try clear hfz30_0
      try clear hfz30_1
      obtain ⟨kq, x41_7, rfl, HA, HJ7, HO_7, HO_851001, HO_860001, BK850, BK859, HB⟩ := hcut
      cases kq with
      | zero => exact absurd HA.out (by simp [laws_FnExactSpaceWith.j0])
      | succ kj7 =>
        have H := HA.out
        clear HA
        simp only [laws_FnExactSpaceWith.j0] at H
        by_cases c32 : x41_7 = true
        · subst c32
          have H1 : (some false) = some r := by rw [if_pos rfl] at H; exact H
          clear H
          have H := H1
          clear H1
          obtain rfl := Option.some.inj H
          go_wp2
          go_ret
          exact ⟨by first | rfl | (simp [errW_none, errW_some] <;> rfl) | (simp [*, errW_none, errW_some] <;> rfl), by repeat (first | (with_reducible first | exact HB.out | apply below_alloc | apply pw_below_drewN | apply below_drew1 | refine below_set ?_ GE850.out | refine below_set ?_ GE859.out) | exact HB.out)⟩
        · replace c32 := Bool.eq_false_iff.mpr c32
          subst c32
          have H1 : ((laws_toIntS.f kj7 l1).bind fun t861 => ((laws_eqIntS.f kj7 t851 t861).bind fun t864 => (if t864 = true then ((laws_markIntS.f kj7 t851 1).bind fun bt865 => (if bt865.1 < 0 then (laws_FnExactSpaceWith.j1 kj7 a0 l1 t849 true t845 t846 t854 t855) else ((laws_eqSpace.f kj7 t854 t855 t845 t846).bind fun t867 => (if t867 = true then (laws_FnExactSpaceWith.j1 kj7 a0 l1 t849 (t858 != t849) t845 t846 t854 t855) else (laws_FnExactSpaceWith.j1 kj7 a0 l1 t849 true t845 t846 t854 t855))))) else (some false)))) = some r := by rw [if_neg (show ¬ (false = true) by decide)] at H; exact H
          clear H
          have H := H1
          clear H1
          replace H := Option.bind_eq_some_iff.mp H
          obtain ⟨t861, A330, H⟩ := H
          replace H : ((laws_eqIntS.f kj7 t851 t861).bind fun t864 => (if t864 = true then ((laws_markIntS.f kj7 t851 1).bind fun bt865 => (if bt865.1 < 0 then (laws_FnExactSpaceWith.j1 kj7 a0 l1 t849 true t845 t846 t854 t855) else ((laws_eqSpace.f kj7 t854 t855 t845 t846).bind fun t867 => (if t867 = true then (laws_FnExactSpaceWith.j1 kj7 a0 l1 t849 (t858 != t849) t845 t846 t854 t855) else (laws_FnExactSpaceWith.j1 kj7 a0 l1 t849 true t845 t846 t854 t855))))) else (some false))) = some r := H
          have A33 := Aside0.mk A330
          clear A330
          replace H := Option.bind_eq_some_iff.mp H
          obtain ⟨t864, A340, H⟩ := H
          replace H : (if t864 = true then ((laws_markIntS.f kj7 t851 1).bind fun bt865 => (if bt865.1 < 0 then (laws_FnExactSpaceWith.j1 kj7 a0 l1 t849 true t845 t846 t854 t855) else ((laws_eqSpace.f kj7 t854 t855 t845 t846).bind fun t867 => (if t867 = true then (laws_FnExactSpaceWith.j1 kj7 a0 l1 t849 (t858 != t849) t845 t846 t854 t855) else (laws_FnExactSpaceWith.j1 kj7 a0 l1 t849 true t845 t846 t854 t855))))) else (some false)) = some r := H
          have A34 := Aside0.mk A340
          clear A340
          by_cases c35 : t864 = true
          · subst c35
            have H1 : ((laws_markIntS.f kj7 t851 1).bind fun bt865 => (if bt865.1 < 0 then (laws_FnExactSpaceWith.j1 kj7 a0 l1 t849 true t845 t846 t854 t855) else ((laws_eqSpace.f kj7 t854 t855 t845 t846).bind fun t867 => (if t867 = true then (laws_FnExactSpaceWith.j1 kj7 a0 l1 t849 (t858 != t849) t845 t846 t854 t855) else (laws_FnExactSpaceWith.j1 kj7 a0 l1 t849 true t845 t846 t854 t855))))) = some r := by rw [if_pos rfl] at H; exact H
            clear H
            have H := H1
            clear H1
            replace H := Option.bind_eq_some_iff.mp H
            obtain ⟨⟨t865, t866⟩, A360, H⟩ := H
            replace H : (if t865 < 0 then (laws_FnExactSpaceWith.j1 kj7 a0 l1 t849 true t845 t846 t854 t855) else ((laws_eqSpace.f kj7 t854 t855 t845 t846).bind fun t867 => (if t867 = true then (laws_FnExactSpaceWith.j1 kj7 a0 l1 t849 (t858 != t849) t845 t846 t854 t855) else (laws_FnExactSpaceWith.j1 kj7 a0 l1 t849 true t845 t846 t854 t855)))) = some r := H
            have A36 := Aside0.mk A360
            clear A360
            have HC37 := Aside0.mk H
            clear H
            go_upto_region 12 with (first | ((with_reducible refine gate_callee (f := 49) rfl ?_); refine goesL_ (some 44) rfl rfl Try.func49 (by kernel_rfl) rfl #[.slice A1 l1.length c1] rfl (by (try simp only [List.map_toArray, List.map_cons, List.map_nil]); first | done | rfl | (simp only [List.length_drop, List.length_take]; rfl)) ?_; (with_reducible refine (laws_toIntS.calls kj7 _ _ l1 t861 _ ?side1 ?side2 A33.out).mono ?_); (case side1 => repeat (first | exact (Kd.C_below HR1.out HB.out) | (with_reducible refine Kd.C_alloc ?_ _) | (with_reducible refine Kd.C_drewN ?_ _) | (with_reducible refine Kd.C_drew ?_))); (case side2 => exact HC1.out); rintro e w38 ⟨v862, rfl, ho0, hb⟩; refine ⟨_, rfl, ?_⟩; have n0_ := Aside0.mk (Kd.R_elder' (by (with_reducible repeat (first | apply Kd.R_alloc | apply Kd.R_drewN | apply Kd.R_drew)); exact HO_7.out) (Kd.R_base ho0) hb); have n1_ := Aside0.mk (Kd.R_elder' (by (with_reducible repeat (first | apply Kd.R_alloc | apply Kd.R_drewN | apply Kd.R_drew)); exact HO_851001.out) (Kd.R_base ho0) hb); have n2_ := Aside0.mk (Kd.R_elder' (by (with_reducible repeat (first | apply Kd.R_alloc | apply Kd.R_drewN | apply Kd.R_drew)); exact HO_860001.out) (Kd.R_base ho0) hb); have n3_ := Aside0.mk (Kd.R_lower (Kd.R_new' (Kd.R_new' (Kd.R_new' ho0 (Kd.R_lt (by (with_reducible repeat (first | apply Kd.R_alloc | apply Kd.R_drewN | apply Kd.R_drew)); exact HO_7.out))) (Kd.R_lt (by (with_reducible repeat (first | apply Kd.R_alloc | apply Kd.R_drewN | apply Kd.R_drew)); exact HO_851001.out))) (Kd.R_lt (by (with_reducible repeat (first | apply Kd.R_alloc | apply Kd.R_drewN | apply Kd.R_drew)); exact HO_860001.out))) (below_size (by repeat (first | (with_reducible first | exact HB.out | apply below_alloc | apply pw_below_drewN | apply below_drew1 | refine below_set ?_ GE850.out | refine below_set ?_ GE859.out) | exact HB.out)))); have n4_ := Aside0.mk (blk_below (g := gb850) (o := .cells #[.int .i64 t845, .slice Ao14 t846.length co14] 37 (0, 0)) (by (with_reducible repeat (first | refine blk_drewN ?_ _ | refine blk_drew ?_ | refine blk_alloc ?_ _)); exact BK850.out) hb); have n5_ := Aside0.mk (blk_below (g := gb859) (o := .cells #[.int .i64 t854, .slice Ao21 t855.length co21] 37 (0, 0)) (by (with_reducible repeat (first | refine blk_drewN ?_ _ | refine blk_drew ?_ | refine blk_alloc ?_ _)); exact BK859.out) hb); have n6_ := Aside0.mk (below_step (by repeat (first | (with_reducible first | exact HB.out | apply below_alloc | apply pw_below_drewN | apply below_drew1 | refine below_set ?_ GE850.out | refine below_set ?_ GE859.out) | exact HB.out)) hb); clear HO_7; clear HO_851001; clear HO_860001; clear BK850; clear BK859; clear HB; have HO_7 := n0_; have HO_851001 := n1_; have HO_860001 := n2_; have HO863 := n3_; have BK850 := n4_; have BK859 := n5_; have HB := n6_; clear n0_ n1_ n2_ n3_ n4_ n5_ n6_; (try clear hb); (try clear hb2); (try clear hk); (try clear hi); (try clear ho0); obtain ⟨Ao39, co39, eo39⟩ := Kd.R_slice HO863.out; subst eo39) | ((with_reducible refine gate_callee (f := 36) rfl ?_); refine goesL_ (some 45) rfl rfl Try.func36 (by kernel_rfl) rfl #[.slice Ao16 t851.length co16, .slice Ao39 t861.length co39] rfl (by (try simp only [List.map_toArray, List.map_cons, List.map_nil]); first | done | rfl | (simp only [List.length_drop, List.length_take]; rfl)) ?_; (with_reducible refine (laws_eqIntS.calls kj7 _ _ t851 _ _ t861 true _ ?side1 ?side2 ?side3 ?side4 A34.out).mono ?_); (case side1 => repeat (first | exact (Kd.R_reads' HO_7.out).2.2 | (with_reducible refine Kd.C_alloc ?_ _) | (with_reducible refine Kd.C_drewN ?_ _) | (with_reducible refine Kd.C_drew ?_))); (case side2 => exact (Kd.R_reads' HO_7.out).2.1); (case side3 => repeat (first | exact (Kd.R_reads' HO863.out).2.2 | (with_reducible refine Kd.C_alloc ?_ _) | (with_reducible refine Kd.C_drewN ?_ _) | (with_reducible refine Kd.C_drew ?_))); (case side4 => exact (Kd.R_reads' HO863.out).2.1); rintro e w' ⟨rfl, ⟨nd, rfl⟩⟩; refine ⟨_, rfl, ?_⟩) | ((with_reducible refine gate_callee (f := 38) rfl ?_); refine goesL_ (some 49) rfl rfl Try.func38 (by kernel_rfl) rfl #[.slice Ao16 t851.length co16, .int .i64 1] rfl (by (try simp only [List.map_toArray, List.map_cons, List.map_nil]); first | done | rfl | (simp only [List.length_drop, List.length_take]; rfl)) ?_; (with_reducible refine (laws_markIntS.calls kj7 (fun k_ => some k_ = (.slice Ao16 t851.length co16 : Value).ownBlock) (.slice Ao16 t851.length co16) t851 1 t865 t866 w _ ?side1 ?side2 A36.out).mono ?_); (case side1 => repeat (first | (with_reducible first | exact HB.out | apply below_alloc | apply pw_below_drewN | apply below_drew1 | refine below_set ?_ GE850.out | refine below_set ?_ GE859.out) | exact HB.out)); (case side2 => exact Kd.R_tight rfl HO_7.out); rintro e w40 ⟨rfl, hy0, hb, hkp⟩; refine ⟨_, rfl, ?_⟩; have n0_ := Aside0.mk (Kd.R_reok rfl hy0 (fun k_ e_ => HO_7.out.1 k_ e_)); have n1_ := Aside0.mk (Kd.R_mono (ok' := fun k_ => some k_ ≠ (.slice Ao16 t851.length co16 : Value).ownBlock ∧ some k_ ≠ (.slice Ao21 t855.length co21 : Value).ownBlock ∧ some k_ ≠ (.slice Ao39 t861.length co39 : Value).ownBlock) (Kd.R_keptB (HO_851001.out) hkp (fun k_ hk_ hs_ => (hk_.1.1) hs_)) (fun k_ hk_ => ⟨hk_.1.1.1, hk_.1.1.2, hk_.1.2⟩)); have n2_ := Aside0.mk (Kd.R_mono (ok' := fun k_ => some k_ ≠ (.slice Ao16 t851.length co16 : Value).ownBlock ∧ some k_ ≠ (.slice Ao14 t846.length co14 : Value).ownBlock ∧ some k_ ≠ (.slice Ao39 t861.length co39 : Value).ownBlock) (Kd.R_keptB (HO_860001.out) hkp (fun k_ hk_ hs_ => (hk_.1.1) hs_)) (fun k_ hk_ => ⟨hk_.1.1.1, hk_.1.1.2, hk_.1.2⟩)); have n3_ := Aside0.mk (blk_kept (by (with_reducible repeat (first | refine blk_drewN ?_ _ | refine blk_drew ?_ | refine blk_alloc ?_ _)); exact BK850.out) hkp (fun hs_ => (fun e_ => (Kd.R_ne HO_7.out BK850.out (by decide)) e_) hs_)); have n4_ := Aside0.mk (blk_kept (by (with_reducible repeat (first | refine blk_drewN ?_ _ | refine blk_drew ?_ | refine blk_alloc ?_ _)); exact BK859.out) hkp (fun hs_ => (fun e_ => (Kd.R_ne HO_7.out BK859.out (by decide)) e_) hs_)); have n5_ := Aside0.mk (Kd.R_mono (ok' := fun k_ => some k_ ≠ (.slice Ao16 t851.length co16 : Value).ownBlock ∧ some k_ ≠ (.slice Ao14 t846.length co14 : Value).ownBlock ∧ some k_ ≠ (.slice Ao21 t855.length co21 : Value).ownBlock) (Kd.R_keptB (HO863.out) hkp (fun k_ hk_ hs_ => (hk_.1.1.2) hs_)) (fun k_ hk_ => ⟨hk_.1.1.1.2, hk_.1.1.2, hk_.1.2⟩)); have n6_ := Aside0.mk (hb); clear HO_7; clear HO_851001; clear HO_860001; clear BK850; clear BK859; clear HO863; clear HB; have HO_7 := n0_; have HO_851001 := n1_; have HO_860001 := n2_; have BK850 := n3_; have BK859 := n4_; have HO863 := n5_; have HB := n6_; clear n0_ n1_ n2_ n3_ n4_ n5_ n6_; (try clear hb); (try clear hkp); (try clear hy0)))
            (try simp only [Act.put, List.setIfInBounds_toArray, List.set_cons_zero, List.set_cons_succ])
            go_cut [62] (fun v62 wc => ∃ (kq : Nat) (x62_36 : Bool), v62 = .bool x62_36 ∧ Aside0 (laws_FnExactSpaceWith.j1 kq a0 l1 t849 x62_36 t845 t846 t854 t855 = some r) ∧ Aside0 (kq ≤ kj7) ∧ Aside0 (Kd.R (Kd.int .i64) 3 wc w.heap.size (fun k_ => some k_ ≠ ((.slice Ao21 t855.length co21) : Value).ownBlock) (.slice Ao14 t846.length co14) t846) ∧ Aside0 (Kd.R (Kd.int .i64) 3 wc w.heap.size (fun k_ => some k_ ≠ ((.slice Ao14 t846.length co14) : Value).ownBlock) (.slice Ao21 t855.length co21) t855) ∧ Aside0 (wc.heap[gb850]? = some (.cells #[.int .i64 t845, (.slice Ao14 t846.length co14)] 37 (0, 0))) ∧ Aside0 (wc.heap[gb859]? = some (.cells #[.int .i64 t854, (.slice Ao21 t855.length co21)] 37 (0, 0))) ∧ Aside0 (Below w.heap.size w wc))
            case first =>
              have H := HC37.out
              clear HC37
              by_cases c41 : t865 < 0
              · rw [if_pos c41] at H
                have c41b0 : decide (t865 < 0) = true := decide_eq_true c41
                clear c41
                (first | rw [c41b0] | (simp only [i64_w, i32_w]; rw [c41b0]) | skip)
                have H' := Aside0.mk H
                clear H
                go_wp2
                go_meet
                case rel => exact ⟨_, (true), (by first | rfl | (simp; done) | (simp [*]; done)), H', ⟨by have := HJ7.out; first | omega | exact Nat.le_refl _⟩, ⟨by (with_reducible repeat (first | apply Kd.R_alloc | apply Kd.R_drewN | apply Kd.R_drew)); exact Kd.R_mono HO_851001.out (fun _ hk => hk.2.1)⟩, ⟨by (with_reducible repeat (first | apply Kd.R_alloc | apply Kd.R_drewN | apply Kd.R_drew)); exact Kd.R_mono HO_860001.out (fun _ hk => hk.2.1)⟩, ⟨by (with_reducible repeat (first | refine blk_drewN ?_ _ | refine blk_drew ?_ | refine blk_alloc ?_ _)); exact BK850.out⟩, ⟨by (with_reducible repeat (first | refine blk_drewN ?_ _ | refine blk_drew ?_ | refine blk_alloc ?_ _)); exact BK859.out⟩, ⟨by repeat (first | (with_reducible first | exact HB.out | apply below_alloc | apply pw_below_drewN | apply below_drew1 | refine below_set ?_ GE850.out | refine below_set ?_ GE859.out) | exact HB.out)⟩⟩
              · rw [if_neg c41] at H
                have c41b0 : decide (t865 < 0) = false := decide_eq_false c41
                clear c41
                (first | rw [c41b0] | (simp only [i64_w, i32_w]; rw [c41b0]) | skip)
                replace H := Option.bind_eq_some_iff.mp H
                obtain ⟨t867, A420, H⟩ := H
                replace H : (if t867 = true then (laws_FnExactSpaceWith.j1 kj7 a0 l1 t849 (t858 != t849) t845 t846 t854 t855) else (laws_FnExactSpaceWith.j1 kj7 a0 l1 t849 true t845 t846 t854 t855)) = some r := H
                have A42 := Aside0.mk A420
                clear A420
                by_cases c43 : t867 = true
                · subst c43
                  have H1 : (laws_FnExactSpaceWith.j1 kj7 a0 l1 t849 (t858 != t849) t845 t846 t854 t855) = some r := by rw [if_pos rfl] at H; exact H
                  clear H
                  have H := H1
                  clear H1
                  have H' := Aside0.mk H
                  clear H
                  have hnb44 := NB859_850.out
                  have hnc44 := NB850_859.out
                  have hcz45_0 : w40.cell? ⟨gb859, 0, none⟩ = some (.int .i64 t854) := (blk_cell BK859.out 0).trans rfl
                  have hcz45_1 : w40.cell? ⟨gb859, 1, none⟩ = some (.slice Ao21 t855.length co21) := (blk_cell BK859.out 1).trans rfl
                  have hfz45_0 := blk_frozen BK859.out 0
                  have hfz45_1 := blk_frozen BK859.out 1
                  have hcz46_0 : w40.cell? ⟨gb850, 0, none⟩ = some (.int .i64 t845) := (blk_cell BK850.out 0).trans rfl
                  have hcz46_1 : w40.cell? ⟨gb850, 1, none⟩ = some (.slice Ao14 t846.length co14) := (blk_cell BK850.out 1).trans rfl
                  have hfz46_0 := blk_frozen BK850.out 0
                  have hfz46_1 := blk_frozen BK850.out 1
                  go_wp2_with (first | (go_at_call 24; (with_reducible refine (laws_eqSpace.calls kj7 t854 _ _ t855 t845 _ _ t846 true _ ?side1 ?side2 ?side3 ?side4 A42.out).mono ?_); (case side1 => repeat (first | exact (Kd.R_reads' HO_860001.out).2.2 | (with_reducible refine Kd.C_alloc ?_ _) | (with_reducible refine Kd.C_drewN ?_ _) | (with_reducible refine Kd.C_drew ?_))); (case side2 => exact (Kd.R_reads' HO_860001.out).2.1); (case side3 => repeat (first | exact (Kd.R_reads' HO_851001.out).2.2 | (with_reducible refine Kd.C_alloc ?_ _) | (with_reducible refine Kd.C_drewN ?_ _) | (with_reducible refine Kd.C_drew ?_))); (case side4 => exact (Kd.R_reads' HO_851001.out).2.1); rintro e w47 ⟨rfl, hb⟩; have n0_ := Aside0.mk (Kd.R_below (by (with_reducible repeat (first | apply Kd.R_alloc | apply Kd.R_drewN | apply Kd.R_drew)); exact HO_7.out) hb); have n1_ := Aside0.mk (Kd.R_below (by (with_reducible repeat (first | apply Kd.R_alloc | apply Kd.R_drewN | apply Kd.R_drew)); exact HO_851001.out) hb); have n2_ := Aside0.mk (Kd.R_below (by (with_reducible repeat (first | apply Kd.R_alloc | apply Kd.R_drewN | apply Kd.R_drew)); exact HO_860001.out) hb); have n3_ := Aside0.mk (Kd.R_below (by (with_reducible repeat (first | apply Kd.R_alloc | apply Kd.R_drewN | apply Kd.R_drew)); exact HO863.out) hb); have n4_ := Aside0.mk (blk_below (g := gb850) (o := .cells #[.int .i64 t845, .slice Ao14 t846.length co14] 37 (0, 0)) (by (with_reducible repeat (first | refine blk_drewN ?_ _ | refine blk_drew ?_ | refine blk_alloc ?_ _)); exact BK850.out) hb); have n5_ := Aside0.mk (blk_below (g := gb859) (o := .cells #[.int .i64 t854, .slice Ao21 t855.length co21] 37 (0, 0)) (by (with_reducible repeat (first | refine blk_drewN ?_ _ | refine blk_drew ?_ | refine blk_alloc ?_ _)); exact BK859.out) hb); have n6_ := Aside0.mk (below_step (by repeat (first | (with_reducible first | exact HB.out | apply below_alloc | apply pw_below_drewN | apply below_drew1 | refine below_set ?_ GE850.out | refine below_set ?_ GE859.out) | exact HB.out)) hb); clear HO_7; clear HO_851001; clear HO_860001; clear HO863; clear BK850; clear BK859; clear HB; have HO_7 := n0_; have HO_851001 := n1_; have HO_860001 := n2_; have HO863 := n3_; have BK850 := n4_; have BK859 := n5_; have HB := n6_; clear n0_ n1_ n2_ n3_ n4_ n5_ n6_; (try clear hb); (try clear hb2); (try clear hk); (try clear hi)))
                  go_meet
                  case rel => exact ⟨_, ((t858 != t849)), (by first | rfl | (simp; done) | (simp [*]; done)), H', ⟨by have := HJ7.out; first | omega | exact Nat.le_refl _⟩, ⟨by (with_reducible repeat (first | apply Kd.R_alloc | apply Kd.R_drewN | apply Kd.R_drew)); exact Kd.R_mono HO_851001.out (fun _ hk => hk.2.1)⟩, ⟨by (with_reducible repeat (first | apply Kd.R_alloc | apply Kd.R_drewN | apply Kd.R_drew)); exact Kd.R_mono HO_860001.out (fun _ hk => hk.2.1)⟩, ⟨by (with_reducible repeat (first | refine blk_drewN ?_ _ | refine blk_drew ?_ | refine blk_alloc ?_ _)); exact BK850.out⟩, ⟨by (with_reducible repeat (first | refine blk_drewN ?_ _ | refine blk_drew ?_ | refine blk_alloc ?_ _)); exact BK859.out⟩, ⟨by repeat (first | (with_reducible first | exact HB.out | apply below_alloc | apply pw_below_drewN | apply below_drew1 | refine below_set ?_ GE850.out | refine below_set ?_ GE859.out) | exact HB.out)⟩⟩
                · replace c43 := Bool.eq_false_iff.mpr c43
                  subst c43
                  have H1 : (laws_FnExactSpaceWith.j1 kj7 a0 l1 t849 true t845 t846 t854 t855) = some r := by rw [if_neg (show ¬ (false = true) by decide)] at H; exact H
                  clear H
                  have H := H1
                  clear H1
                  have H' := Aside0.mk H
                  clear H
                  have hnb48 := NB859_850.out
                  have hnc48 := NB850_859.out
                  have hcz49_0 : w40.cell? ⟨gb859, 0, none⟩ = some (.int .i64 t854) := (blk_cell BK859.out 0).trans rfl
                  have hcz49_1 : w40.cell? ⟨gb859, 1, none⟩ = some (.slice Ao21 t855.length co21) := (blk_cell BK859.out 1).trans rfl
                  have hfz49_0 := blk_frozen BK859.out 0
                  have hfz49_1 := blk_frozen BK859.out 1
                  have hcz50_0 : w40.cell? ⟨gb850, 0, none⟩ = some (.int .i64 t845) := (blk_cell BK850.out 0).trans rfl
                  have hcz50_1 : w40.cell? ⟨gb850, 1, none⟩ = some (.slice Ao14 t846.length co14) := (blk_cell BK850.out 1).trans rfl
                  have hfz50_0 := blk_frozen BK850.out 0
                  have hfz50_1 := blk_frozen BK850.out 1
                  go_wp2_with (first | (go_at_call 24; (with_reducible refine (laws_eqSpace.calls kj7 t854 _ _ t855 t845 _ _ t846 false _ ?side1 ?side2 ?side3 ?side4 A42.out).mono ?_); (case side1 => repeat (first | exact (Kd.R_reads' HO_860001.out).2.2 | (with_reducible refine Kd.C_alloc ?_ _) | (with_reducible refine Kd.C_drewN ?_ _) | (with_reducible refine Kd.C_drew ?_))); (case side2 => exact (Kd.R_reads' HO_860001.out).2.1); (case side3 => repeat (first | exact (Kd.R_reads' HO_851001.out).2.2 | (with_reducible refine Kd.C_alloc ?_ _) | (with_reducible refine Kd.C_drewN ?_ _) | (with_reducible refine Kd.C_drew ?_))); (case side4 => exact (Kd.R_reads' HO_851001.out).2.1); rintro e w51 ⟨rfl, hb⟩; have n0_ := Aside0.mk (Kd.R_below (by (with_reducible repeat (first | apply Kd.R_alloc | apply Kd.R_drewN | apply Kd.R_drew)); exact HO_7.out) hb); have n1_ := Aside0.mk (Kd.R_below (by (with_reducible repeat (first | apply Kd.R_alloc | apply Kd.R_drewN | apply Kd.R_drew)); exact HO_851001.out) hb); have n2_ := Aside0.mk (Kd.R_below (by (with_reducible repeat (first | apply Kd.R_alloc | apply Kd.R_drewN | apply Kd.R_drew)); exact HO_860001.out) hb); have n3_ := Aside0.mk (Kd.R_below (by (with_reducible repeat (first | apply Kd.R_alloc | apply Kd.R_drewN | apply Kd.R_drew)); exact HO863.out) hb); have n4_ := Aside0.mk (blk_below (g := gb850) (o := .cells #[.int .i64 t845, .slice Ao14 t846.length co14] 37 (0, 0)) (by (with_reducible repeat (first | refine blk_drewN ?_ _ | refine blk_drew ?_ | refine blk_alloc ?_ _)); exact BK850.out) hb); have n5_ := Aside0.mk (blk_below (g := gb859) (o := .cells #[.int .i64 t854, .slice Ao21 t855.length co21] 37 (0, 0)) (by (with_reducible repeat (first | refine blk_drewN ?_ _ | refine blk_drew ?_ | refine blk_alloc ?_ _)); exact BK859.out) hb); have n6_ := Aside0.mk (below_step (by repeat (first | (with_reducible first | exact HB.out | apply below_alloc | apply pw_below_drewN | apply below_drew1 | refine below_set ?_ GE850.out | refine below_set ?_ GE859.out) | exact HB.out)) hb); clear HO_7; clear HO_851001; clear HO_860001; clear HO863; clear BK850; clear BK859; clear HB; have HO_7 := n0_; have HO_851001 := n1_; have HO_860001 := n2_; have HO863 := n3_; have BK850 := n4_; have BK859 := n5_; have HB := n6_; clear n0_ n1_ n2_ n3_ n4_ n5_ n6_; (try clear hb); (try clear hb2); (try clear hk); (try clear hi)))
                  go_meet
                  case rel => exact ⟨_, (true), (by first | rfl | (simp; done) | (simp [*]; done)), H', ⟨by have := HJ7.out; first | omega | exact Nat.le_refl _⟩, ⟨by (with_reducible repeat (first | apply Kd.R_alloc | apply Kd.R_drewN | apply Kd.R_drew)); exact Kd.R_mono HO_851001.out (fun _ hk => hk.2.1)⟩, ⟨by (with_reducible repeat (first | apply Kd.R_alloc | apply Kd.R_drewN | apply Kd.R_drew)); exact Kd.R_mono HO_860001.out (fun _ hk => hk.2.1)⟩, ⟨by (with_reducible repeat (first | refine blk_drewN ?_ _ | refine blk_drew ?_ | refine blk_alloc ?_ _)); exact BK850.out⟩, ⟨by (with_reducible repeat (first | refine blk_drewN ?_ _ | refine blk_drew ?_ | refine blk_alloc ?_ _)); exact BK859.out⟩, ⟨by repeat (first | (with_reducible first | exact HB.out | apply below_alloc | apply pw_below_drewN | apply below_drew1 | refine below_set ?_ GE850.out | refine below_set ?_ GE859.out) | exact HB.out)⟩⟩
            case rest =>
              clear HC37
              try clear c1
              try clear c2
              try clear p2
              try clear c3
              try clear c3b0
              try clear c3b1
              try clear c4
              try clear c5
              try clear c12
              try clear c19
              try clear c23
              try clear c24
              try clear c28
              try clear c32
              try clear c35
              try clear c36
              try clear c38
              try clear c41
              try clear c41b0
              try clear c43
              try clear c44
              try clear c48
              try clear c49
              try clear c50
              try clear hcz13_0
              try clear hcz13_1
              try clear hcz20_0
              try clear hcz20_1
              try clear hcz25_0
              try clear hcz25_1
              try clear hcz26_0
              try clear hcz26_1
              try clear hcz29_0
              try clear hcz29_1
              try clear hcz30_0
              try clear hcz30_1
              try clear hcz45_0
              try clear hcz45_1
              try clear hcz46_0
              try clear hcz46_1
              try clear hcz49_0
              try clear hcz49_1
              try clear hcz50_0
              try clear hcz50_1
              try clear hfz13_0
              try clear hfz13_1
              try clear hfz20_0
              try clear hfz20_1
              try clear hfz25_0
              try clear hfz25_1
              try clear hfz26_0
              try clear hfz26_1
              try clear hfz29_0
              try clear hfz29_1
              try clear hfz30_0
              try clear hfz30_1
              try clear hfz45_0
              try clear hfz45_1
              try clear hfz46_0
              try clear hfz46_1
              try clear hfz49_0
              try clear hfz49_1
              try clear hfz50_0
              try clear hfz50_1
              try clear p2
              obtain ⟨kq, x62_36, rfl, HA, HJ36, HO_851001, HO_860001, BK850, BK859, HB⟩ := hcut
              cases kq with
              | zero => exact absurd HA.out (by simp [laws_FnExactSpaceWith.j1])
              | succ kj36 =>
                have H := HA.out
                clear HA
                simp only [laws_FnExactSpaceWith.j1] at H
                by_cases c52 : x62_36 = true
                · subst c52
                  have H1 : (some false) = some r := by rw [if_pos rfl] at H; exact H
                  clear H
                  have H := H1
                  clear H1
                  obtain rfl := Option.some.inj H
                  go_wp2
                  go_ret
                  exact ⟨by first | rfl | (simp [errW_none, errW_some] <;> rfl) | (simp [*, errW_none, errW_some] <;> rfl), by repeat (first | (with_reducible first | exact HB.out | apply below_alloc | apply pw_below_drewN | apply below_drew1 | refine below_set ?_ GE850.out | refine below_set ?_ GE859.out) | exact HB.out)⟩
                · replace c52 := Bool.eq_false_iff.mpr c52
                  subst c52
                  have H1 : ((laws_markSpace.f kj36 t854 t855 1).bind fun bt868 => ((laws_heldSpace.f kj36 t854 bt868.2 1).bind fun t870 => (if t870 < 0 then (some false) else (if t870 = bt868.1 then ((laws_toIntS.f kj36 l1).bind fun t871 => ((impl_SpaceWith.f kj36 a0 t871).bind fun bt874 => ((laws_eqSpace.f kj36 bt874.1 bt874.2.1 t845 t846).bind fun t880 => (if t880 = true then (laws_FnExactSpaceWith.j2 kj36 bt868.1 (bt874.2.2 != t849) t854 bt868.2) else (laws_FnExactSpaceWith.j2 kj36 bt868.1 true t854 bt868.2))))) else (some false))))) = some r := by rw [if_neg (show ¬ (false = true) by decide)] at H; exact H
                  clear H
                  have H := H1
                  clear H1
                  replace H := Option.bind_eq_some_iff.mp H
                  obtain ⟨⟨t868, t869⟩, A530, H⟩ := H
                  replace H : ((laws_heldSpace.f kj36 t854 t869 1).bind fun t870 => (if t870 < 0 then (some false) else (if t870 = t868 then ((laws_toIntS.f kj36 l1).bind fun t871 => ((impl_SpaceWith.f kj36 a0 t871).bind fun bt874 => ((laws_eqSpace.f kj36 bt874.1 bt874.2.1 t845 t846).bind fun t880 => (if t880 = true then (laws_FnExactSpaceWith.j2 kj36 t868 (bt874.2.2 != t849) t854 t869) else (laws_FnExactSpaceWith.j2 kj36 t868 true t854 t869))))) else (some false)))) = some r := H
                  have A53 := Aside0.mk A530
                  clear A530
                  replace H := Option.bind_eq_some_iff.mp H
                  obtain ⟨t870, A540, H⟩ := H
                  replace H : (if t870 < 0 then (some false) else (if t870 = t868 then ((laws_toIntS.f kj36 l1).bind fun t871 => ((impl_SpaceWith.f kj36 a0 t871).bind fun bt874 => ((laws_eqSpace.f kj36 bt874.1 bt874.2.1 t845 t846).bind fun t880 => (if t880 = true then (laws_FnExactSpaceWith.j2 kj36 t868 (bt874.2.2 != t849) t854 t869) else (laws_FnExactSpaceWith.j2 kj36 t868 true t854 t869))))) else (some false))) = some r := H
                  have A54 := Aside0.mk A540
                  clear A540
                  by_cases c55 : t870 < 0
                  · rw [if_pos c55] at H
                    have c55b0 : decide (t870 < 0) = true := decide_eq_true c55
                    clear c55
                    obtain rfl := Option.some.inj H
                    have hnb56 := NB859_850.out
                    have hnc56 := NB850_859.out
                    have hcz57_0 : wc.cell? ⟨gb859, 0, none⟩ = some (.int .i64 t854) := (blk_cell BK859.out 0).trans rfl
                    have hcz57_1 : wc.cell? ⟨gb859, 1, none⟩ = some (.slice Ao21 t855.length co21) := (blk_cell BK859.out 1).trans rfl
                    have hfz57_0 := blk_frozen BK859.out 0
                    have hfz57_1 := blk_frozen BK859.out 1
                    go_wp2_with (first | ((with_reducible refine gate_callee (f := 37) rfl ?_); refine goesL_ (some 65) rfl rfl Try.func37 (by kernel_rfl) rfl #[.agg #[.int .i64 t854, .slice Ao21 t855.length co21], .int .i64 1] rfl (by (try simp only [List.map_toArray, List.map_cons, List.map_nil]); first | done | rfl | (simp only [List.length_drop, List.length_take]; rfl)) ?_; (with_reducible refine (laws_markSpace.calls kj36 t854 (fun k_ => some k_ = (.slice Ao21 t855.length co21 : Value).ownBlock) (.slice Ao21 t855.length co21) t855 1 t868 t869 w _ ?side1 ?side2 A53.out).mono ?_); (case side1 => repeat (first | (with_reducible first | exact HB.out | apply below_alloc | apply pw_below_drewN | apply below_drew1 | refine below_set ?_ GE850.out | refine below_set ?_ GE859.out) | exact HB.out)); (case side2 => exact Kd.R_tight rfl HO_860001.out); rintro e w58 ⟨rfl, hy0, hb, hkp⟩; refine ⟨_, rfl, ?_⟩; have n0_ := Aside0.mk (Kd.R_mono (ok' := fun k_ => some k_ ≠ (.slice Ao21 t855.length co21 : Value).ownBlock) (Kd.R_keptB (HO_851001.out) hkp (fun k_ hk_ hs_ => (hk_) hs_)) (fun k_ hk_ => hk_.1)); have n1_ := Aside0.mk (Kd.R_reok rfl hy0 (fun k_ e_ => HO_860001.out.1 k_ e_)); have n2_ := Aside0.mk (blk_kept (by (with_reducible repeat (first | refine blk_drewN ?_ _ | refine blk_drew ?_ | refine blk_alloc ?_ _)); exact BK850.out) hkp (fun hs_ => (fun e_ => (Kd.R_ne HO_860001.out BK850.out (by decide)) e_) hs_)); have n3_ := Aside0.mk (blk_kept (by (with_reducible repeat (first | refine blk_drewN ?_ _ | refine blk_drew ?_ | refine blk_alloc ?_ _)); exact BK859.out) hkp (fun hs_ => (fun e_ => (Kd.R_ne HO_860001.out BK859.out (by decide)) e_) hs_)); have n4_ := Aside0.mk (hb); clear HO_851001; clear HO_860001; clear BK850; clear BK859; clear HB; have HO_851001 := n0_; have HO_860001 := n1_; have BK850 := n2_; have BK859 := n3_; have HB := n4_; clear n0_ n1_ n2_ n3_ n4_; (try clear hb); (try clear hkp); (try clear hy0); have hcz59_0 : w58.cell? ⟨gb859, 0, none⟩ = some (.int .i64 t854) := (blk_cell BK859.out 0).trans rfl; have hcz59_1 : w58.cell? ⟨gb859, 1, none⟩ = some (.slice Ao21 t855.length co21) := (blk_cell BK859.out 1).trans rfl; have hfz59_0 := blk_frozen BK859.out 0; have hfz59_1 := blk_frozen BK859.out 1) | ((with_reducible refine gate_callee (f := 45) rfl ?_); refine goesL_ (some 68) rfl rfl Try.func45 (by kernel_rfl) rfl #[.agg #[.int .i64 t854, .slice Ao21 t869.length co21], .int .i64 1] rfl (by (try simp only [List.map_toArray, List.map_cons, List.map_nil]); first | done | (rw [show t869.length = t855.length from (Kd.R_reads' HO_860001.out).1.symm] <;> rfl) | rfl | (simp only [List.length_drop, List.length_take]; rfl)) ?_; (with_reducible refine (laws_heldSpace.calls kj36 t854 _ _ t869 1 t870 _ ?side1 ?side2 A54.out).mono ?_); (case side1 => repeat (first | exact (Kd.R_reads' HO_860001.out).2.2 | (with_reducible refine Kd.C_alloc ?_ _) | (with_reducible refine Kd.C_drewN ?_ _) | (with_reducible refine Kd.C_drew ?_))); (case side2 => rw [show t869.length = t855.length from (Kd.R_reads' HO_860001.out).1.symm]; exact (Kd.R_reads' HO_860001.out).2.1); rintro e w60 ⟨rfl, hb⟩; refine ⟨_, rfl, ?_⟩; have n0_ := Aside0.mk (Kd.R_below (by (with_reducible repeat (first | apply Kd.R_alloc | apply Kd.R_drewN | apply Kd.R_drew)); exact HO_851001.out) hb); have n1_ := Aside0.mk (Kd.R_below (by (with_reducible repeat (first | apply Kd.R_alloc | apply Kd.R_drewN | apply Kd.R_drew)); exact HO_860001.out) hb); have n2_ := Aside0.mk (blk_below (g := gb850) (o := .cells #[.int .i64 t845, .slice Ao14 t846.length co14] 37 (0, 0)) (by (with_reducible repeat (first | refine blk_drewN ?_ _ | refine blk_drew ?_ | refine blk_alloc ?_ _)); exact BK850.out) hb); have n3_ := Aside0.mk (blk_below (g := gb859) (o := .cells #[.int .i64 t854, .slice Ao21 t855.length co21] 37 (0, 0)) (by (with_reducible repeat (first | refine blk_drewN ?_ _ | refine blk_drew ?_ | refine blk_alloc ?_ _)); exact BK859.out) hb); have n4_ := Aside0.mk (below_step (by repeat (first | (with_reducible first | exact HB.out | apply below_alloc | apply pw_below_drewN | apply below_drew1 | refine below_set ?_ GE850.out | refine below_set ?_ GE859.out) | exact HB.out)) hb); clear HO_851001; clear HO_860001; clear BK850; clear BK859; clear HB; have HO_851001 := n0_; have HO_860001 := n1_; have BK850 := n2_; have BK859 := n3_; have HB := n4_; clear n0_ n1_ n2_ n3_ n4_; (try clear hb); (try clear hb2); (try clear hk); (try clear hi)))
                    go_ret
                    exact ⟨by first | rfl | (simp [errW_none, errW_some] <;> rfl) | (simp [*, errW_none, errW_some] <;> rfl), by repeat (first | (with_reducible first | exact HB.out | apply below_alloc | apply pw_below_drewN | apply below_drew1 | refine below_set ?_ GE850.out | refine below_set ?_ GE859.out) | exact HB.out)⟩
                  · rw [if_neg c55] at H
                    have c55b0 : decide (t870 < 0) = false := decide_eq_false c55
                    clear c55
                    by_cases c61 : t870 = t868
                    · rw [if_pos c61] at H
                      have c61b0 : (t870 == t868) = true := beq_iff_eq.mpr c61
                      have c61b1 : (t870 != t868) = false := bne_eq_false_iff_eq.mpr c61
                      clear c61
                      replace H := Option.bind_eq_some_iff.mp H
                      obtain ⟨t871, A620, H⟩ := H
                      replace H : ((impl_SpaceWith.f kj36 a0 t871).bind fun bt874 => ((laws_eqSpace.f kj36 bt874.1 bt874.2.1 t845 t846).bind fun t880 => (if t880 = true then (laws_FnExactSpaceWith.j2 kj36 t868 (bt874.2.2 != t849) t854 t869) else (laws_FnExactSpaceWith.j2 kj36 t868 true t854 t869)))) = some r := H
                      have A62 := Aside0.mk A620
                      clear A620
                      replace H := Option.bind_eq_some_iff.mp H
                      obtain ⟨⟨t874, t875, t878⟩, A630, H⟩ := H
                      replace H : ((laws_eqSpace.f kj36 t874 t875 t845 t846).bind fun t880 => (if t880 = true then (laws_FnExactSpaceWith.j2 kj36 t868 (t878 != t849) t854 t869) else (laws_FnExactSpaceWith.j2 kj36 t868 true t854 t869))) = some r := H
                      have A63 := Aside0.mk A630
                      clear A630
                      have HC64 := Aside0.mk H
                      clear H
                      have hnb65 := NB859_850.out
                      have hnc65 := NB850_859.out
                      have hcz66_0 : wc.cell? ⟨gb859, 0, none⟩ = some (.int .i64 t854) := (blk_cell BK859.out 0).trans rfl
                      have hcz66_1 : wc.cell? ⟨gb859, 1, none⟩ = some (.slice Ao21 t855.length co21) := (blk_cell BK859.out 1).trans rfl
                      have hfz66_0 := blk_frozen BK859.out 0
                      have hfz66_1 := blk_frozen BK859.out 1
                      go_upto_region 23 with (first | ((with_reducible refine gate_callee (f := 37) rfl ?_); refine goesL_ (some 65) rfl rfl Try.func37 (by kernel_rfl) rfl #[.agg #[.int .i64 t854, .slice Ao21 t855.length co21], .int .i64 1] rfl (by (try simp only [List.map_toArray, List.map_cons, List.map_nil]); first | done | rfl | (simp only [List.length_drop, List.length_take]; rfl)) ?_; (with_reducible refine (laws_markSpace.calls kj36 t854 (fun k_ => some k_ = (.slice Ao21 t855.length co21 : Value).ownBlock) (.slice Ao21 t855.length co21) t855 1 t868 t869 w _ ?side1 ?side2 A53.out).mono ?_); (case side1 => repeat (first | (with_reducible first | exact HB.out | apply below_alloc | apply pw_below_drewN | apply below_drew1 | refine below_set ?_ GE850.out | refine below_set ?_ GE859.out) | exact HB.out)); (case side2 => exact Kd.R_tight rfl HO_860001.out); rintro e w67 ⟨rfl, hy0, hb, hkp⟩; refine ⟨_, rfl, ?_⟩; have n0_ := Aside0.mk (Kd.R_mono (ok' := fun k_ => some k_ ≠ (.slice Ao21 t855.length co21 : Value).ownBlock) (Kd.R_keptB (HO_851001.out) hkp (fun k_ hk_ hs_ => (hk_) hs_)) (fun k_ hk_ => hk_.1)); have n1_ := Aside0.mk (Kd.R_reok rfl hy0 (fun k_ e_ => HO_860001.out.1 k_ e_)); have n2_ := Aside0.mk (blk_kept (by (with_reducible repeat (first | refine blk_drewN ?_ _ | refine blk_drew ?_ | refine blk_alloc ?_ _)); exact BK850.out) hkp (fun hs_ => (fun e_ => (Kd.R_ne HO_860001.out BK850.out (by decide)) e_) hs_)); have n3_ := Aside0.mk (blk_kept (by (with_reducible repeat (first | refine blk_drewN ?_ _ | refine blk_drew ?_ | refine blk_alloc ?_ _)); exact BK859.out) hkp (fun hs_ => (fun e_ => (Kd.R_ne HO_860001.out BK859.out (by decide)) e_) hs_)); have n4_ := Aside0.mk (hb); clear HO_851001; clear HO_860001; clear BK850; clear BK859; clear HB; have HO_851001 := n0_; have HO_860001 := n1_; have BK850 := n2_; have BK859 := n3_; have HB := n4_; clear n0_ n1_ n2_ n3_ n4_; (try clear hb); (try clear hkp); (try clear hy0); have hcz68_0 : w67.cell? ⟨gb859, 0, none⟩ = some (.int .i64 t854) := (blk_cell BK859.out 0).trans rfl; have hcz68_1 : w67.cell? ⟨gb859, 1, none⟩ = some (.slice Ao21 t855.length co21) := (blk_cell BK859.out 1).trans rfl; have hfz68_0 := blk_frozen BK859.out 0; have hfz68_1 := blk_frozen BK859.out 1) | ((with_reducible refine gate_callee (f := 45) rfl ?_); refine goesL_ (some 68) rfl rfl Try.func45 (by kernel_rfl) rfl #[.agg #[.int .i64 t854, .slice Ao21 t869.length co21], .int .i64 1] rfl (by (try simp only [List.map_toArray, List.map_cons, List.map_nil]); first | done | (rw [show t869.length = t855.length from (Kd.R_reads' HO_860001.out).1.symm] <;> rfl) | rfl | (simp only [List.length_drop, List.length_take]; rfl)) ?_; (with_reducible refine (laws_heldSpace.calls kj36 t854 _ _ t869 1 t870 _ ?side1 ?side2 A54.out).mono ?_); (case side1 => repeat (first | exact (Kd.R_reads' HO_860001.out).2.2 | (with_reducible refine Kd.C_alloc ?_ _) | (with_reducible refine Kd.C_drewN ?_ _) | (with_reducible refine Kd.C_drew ?_))); (case side2 => rw [show t869.length = t855.length from (Kd.R_reads' HO_860001.out).1.symm]; exact (Kd.R_reads' HO_860001.out).2.1); rintro e w69 ⟨rfl, hb⟩; refine ⟨_, rfl, ?_⟩; have n0_ := Aside0.mk (Kd.R_below (by (with_reducible repeat (first | apply Kd.R_alloc | apply Kd.R_drewN | apply Kd.R_drew)); exact HO_851001.out) hb); have n1_ := Aside0.mk (Kd.R_below (by (with_reducible repeat (first | apply Kd.R_alloc | apply Kd.R_drewN | apply Kd.R_drew)); exact HO_860001.out) hb); have n2_ := Aside0.mk (blk_below (g := gb850) (o := .cells #[.int .i64 t845, .slice Ao14 t846.length co14] 37 (0, 0)) (by (with_reducible repeat (first | refine blk_drewN ?_ _ | refine blk_drew ?_ | refine blk_alloc ?_ _)); exact BK850.out) hb); have n3_ := Aside0.mk (blk_below (g := gb859) (o := .cells #[.int .i64 t854, .slice Ao21 t855.length co21] 37 (0, 0)) (by (with_reducible repeat (first | refine blk_drewN ?_ _ | refine blk_drew ?_ | refine blk_alloc ?_ _)); exact BK859.out) hb); have n4_ := Aside0.mk (below_step (by repeat (first | (with_reducible first | exact HB.out | apply below_alloc | apply pw_below_drewN | apply below_drew1 | refine below_set ?_ GE850.out | refine below_set ?_ GE859.out) | exact HB.out)) hb); clear HO_851001; clear HO_860001; clear BK850; clear BK859; clear HB; have HO_851001 := n0_; have HO_860001 := n1_; have BK850 := n2_; have BK859 := n3_; have HB := n4_; clear n0_ n1_ n2_ n3_ n4_; (try clear hb); (try clear hb2); (try clear hk); (try clear hi)) | ((with_reducible refine gate_callee (f := 49) rfl ?_); refine goesL_ (some 77) rfl rfl Try.func49 (by kernel_rfl) rfl #[.slice A1 l1.length c1] rfl (by (try simp only [List.map_toArray, List.map_cons, List.map_nil]); first | done | rfl | (simp only [List.length_drop, List.length_take]; rfl)) ?_; (with_reducible refine (laws_toIntS.calls kj36 _ _ l1 t871 _ ?side1 ?side2 A62.out).mono ?_); (case side1 => repeat (first | exact (Kd.C_below HR1.out HB.out) | (with_reducible refine Kd.C_alloc ?_ _) | (with_reducible refine Kd.C_drewN ?_ _) | (with_reducible refine Kd.C_drew ?_))); (case side2 => exact HC1.out); rintro e w70 ⟨v872, rfl, ho0, hb⟩; refine ⟨_, rfl, ?_⟩; have n0_ := Aside0.mk (Kd.R_elder' (by (with_reducible repeat (first | apply Kd.R_alloc | apply Kd.R_drewN | apply Kd.R_drew)); exact HO_851001.out) (Kd.R_base ho0) hb); have n1_ := Aside0.mk (Kd.R_elder' (by (with_reducible repeat (first | apply Kd.R_alloc | apply Kd.R_drewN | apply Kd.R_drew)); exact HO_860001.out) (Kd.R_base ho0) hb); have n2_ := Aside0.mk (Kd.R_lower (Kd.R_new' (Kd.R_new' ho0 (Kd.R_lt (by (with_reducible repeat (first | apply Kd.R_alloc | apply Kd.R_drewN | apply Kd.R_drew)); exact HO_851001.out))) (Kd.R_lt (by (with_reducible repeat (first | apply Kd.R_alloc | apply Kd.R_drewN | apply Kd.R_drew)); exact HO_860001.out))) (below_size (by repeat (first | (with_reducible first | exact HB.out | apply below_alloc | apply pw_below_drewN | apply below_drew1 | refine below_set ?_ GE850.out | refine below_set ?_ GE859.out) | exact HB.out)))); have n3_ := Aside0.mk (blk_below (g := gb850) (o := .cells #[.int .i64 t845, .slice Ao14 t846.length co14] 37 (0, 0)) (by (with_reducible repeat (first | refine blk_drewN ?_ _ | refine blk_drew ?_ | refine blk_alloc ?_ _)); exact BK850.out) hb); have n4_ := Aside0.mk (blk_below (g := gb859) (o := .cells #[.int .i64 t854, .slice Ao21 t855.length co21] 37 (0, 0)) (by (with_reducible repeat (first | refine blk_drewN ?_ _ | refine blk_drew ?_ | refine blk_alloc ?_ _)); exact BK859.out) hb); have n5_ := Aside0.mk (below_step (by repeat (first | (with_reducible first | exact HB.out | apply below_alloc | apply pw_below_drewN | apply below_drew1 | refine below_set ?_ GE850.out | refine below_set ?_ GE859.out) | exact HB.out)) hb); clear HO_851001; clear HO_860001; clear BK850; clear BK859; clear HB; have HO_851001 := n0_; have HO_860001 := n1_; have HO873 := n2_; have BK850 := n3_; have BK859 := n4_; have HB := n5_; clear n0_ n1_ n2_ n3_ n4_ n5_; (try clear hb); (try clear hb2); (try clear hk); (try clear hi); (try clear ho0); obtain ⟨Ao71, co71, eo71⟩ := Kd.R_slice HO873.out; subst eo71) | ((with_reducible refine gate_callee (f := 50) rfl ?_); refine goesL_ (some 78) rfl rfl Try.func50 (by kernel_rfl) rfl #[.int .i64 a0, .slice Ao71 t871.length co71] rfl (by (try simp only [List.map_toArray, List.map_cons, List.map_nil]); first | done | rfl | (simp only [List.length_drop, List.length_take]; rfl)) ?_; (with_reducible refine (impl_SpaceWith.calls kj36 a0 _ _ t871 t874 t875 t878 _ ?side1 ?side2 A63.out).mono ?_); (case side1 => repeat (first | exact (Kd.R_reads' HO873.out).2.2 | (with_reducible refine Kd.C_alloc ?_ _) | (with_reducible refine Kd.C_drewN ?_ _) | (with_reducible refine Kd.C_drew ?_))); (case side2 => exact (Kd.R_reads' HO873.out).2.1); rintro e w72 ⟨v876, rfl, ho0, hb⟩; refine ⟨_, rfl, ?_⟩; have n0_ := Aside0.mk (Kd.R_elder' (by (with_reducible repeat (first | apply Kd.R_alloc | apply Kd.R_drewN | apply Kd.R_drew)); exact HO_851001.out) (Kd.R_base ho0) hb); have n1_ := Aside0.mk (Kd.R_elder' (by (with_reducible repeat (first | apply Kd.R_alloc | apply Kd.R_drewN | apply Kd.R_drew)); exact HO_860001.out) (Kd.R_base ho0) hb); have n2_ := Aside0.mk (Kd.R_elder' (by (with_reducible repeat (first | apply Kd.R_alloc | apply Kd.R_drewN | apply Kd.R_drew)); exact HO873.out) (Kd.R_base ho0) hb); have n3_ := Aside0.mk (Kd.R_lower (Kd.R_new' (Kd.R_new' (Kd.R_new' ho0 (Kd.R_lt (by (with_reducible repeat (first | apply Kd.R_alloc | apply Kd.R_drewN | apply Kd.R_drew)); exact HO_851001.out))) (Kd.R_lt (by (with_reducible repeat (first | apply Kd.R_alloc | apply Kd.R_drewN | apply Kd.R_drew)); exact HO_860001.out))) (Kd.R_lt (by (with_reducible repeat (first | apply Kd.R_alloc | apply Kd.R_drewN | apply Kd.R_drew)); exact HO873.out))) (below_size (by repeat (first | (with_reducible first | exact HB.out | apply below_alloc | apply pw_below_drewN | apply below_drew1 | refine below_set ?_ GE850.out | refine below_set ?_ GE859.out) | exact HB.out)))); have n4_ := Aside0.mk (blk_below (g := gb850) (o := .cells #[.int .i64 t845, .slice Ao14 t846.length co14] 37 (0, 0)) (by (with_reducible repeat (first | refine blk_drewN ?_ _ | refine blk_drew ?_ | refine blk_alloc ?_ _)); exact BK850.out) hb); have n5_ := Aside0.mk (blk_below (g := gb859) (o := .cells #[.int .i64 t854, .slice Ao21 t855.length co21] 37 (0, 0)) (by (with_reducible repeat (first | refine blk_drewN ?_ _ | refine blk_drew ?_ | refine blk_alloc ?_ _)); exact BK859.out) hb); have n6_ := Aside0.mk (below_step (by repeat (first | (with_reducible first | exact HB.out | apply below_alloc | apply pw_below_drewN | apply below_drew1 | refine below_set ?_ GE850.out | refine below_set ?_ GE859.out) | exact HB.out)) hb); clear HO_851001; clear HO_860001; clear HO873; clear BK850; clear BK859; clear HB; have HO_851001 := n0_; have HO_860001 := n1_; have HO873 := n2_; have HO877 := n3_; have BK850 := n4_; have BK859 := n5_; have HB := n6_; clear n0_ n1_ n2_ n3_ n4_ n5_ n6_; (try clear hb); (try clear hb2); (try clear hk); (try clear hi); (try clear ho0)) | ((with_reducible refine gate_dst (N := 13) rfl ?_); refine box_event ?hg (N := 13) ?hd (cs := #[.int .i64 0, .slice none 0 0]) (t := 37) ?hr ?_; (case hd => rfl); (case hg => rfl); (case hr => first | (go_simp; done) | (go_simp; rfl)); intro gb879 hg w73 hbox hb; have n0_ := Aside0.mk (Kd.R_below (by (with_reducible repeat (first | apply Kd.R_alloc | apply Kd.R_drewN | apply Kd.R_drew)); exact HO_851001.out) hb); have n1_ := Aside0.mk (Kd.R_below (by (with_reducible repeat (first | apply Kd.R_alloc | apply Kd.R_drewN | apply Kd.R_drew)); exact HO_860001.out) hb); have n2_ := Aside0.mk (Kd.R_below (by (with_reducible repeat (first | apply Kd.R_alloc | apply Kd.R_drewN | apply Kd.R_drew)); exact HO873.out) hb); have n3_ := Aside0.mk (Kd.R_below (by (with_reducible repeat (first | apply Kd.R_alloc | apply Kd.R_drewN | apply Kd.R_drew)); exact HO877.out) hb); have n4_ := Aside0.mk (blk_below (g := gb850) (o := .cells #[.int .i64 t845, .slice Ao14 t846.length co14] 37 (0, 0)) (by (with_reducible repeat (first | refine blk_drewN ?_ _ | refine blk_drew ?_ | refine blk_alloc ?_ _)); exact BK850.out) hb); have n5_ := Aside0.mk (blk_below (g := gb859) (o := .cells #[.int .i64 t854, .slice Ao21 t855.length co21] 37 (0, 0)) (by (with_reducible repeat (first | refine blk_drewN ?_ _ | refine blk_drew ?_ | refine blk_alloc ?_ _)); exact BK859.out) hb); have n6_ := Aside0.mk (below_step (by repeat (first | (with_reducible first | exact HB.out | apply below_alloc | apply pw_below_drewN | apply below_drew1 | refine below_set ?_ GE850.out | refine below_set ?_ GE859.out) | exact HB.out)) hb); have n7_ := Aside0.mk (hbox); have n8_ := Aside0.mk ((by rw [hg]; exact (below_size (by repeat (first | (with_reducible first | exact HB.out | apply below_alloc | apply pw_below_drewN | apply below_drew1 | refine below_set ?_ GE850.out | refine below_set ?_ GE859.out) | exact HB.out))) : w.heap.size ≤ gb879)); have n9_ := Aside0.mk ((by rw [hg]; exact (below_size (by repeat (first | (with_reducible first | exact HB.out | apply below_alloc | apply pw_below_drewN | apply below_drew1 | refine below_set ?_ GE850.out | refine below_set ?_ GE859.out) | exact HB.out))) : w.heap.size ≤ gb879)); have n10_ := Aside0.mk ((by rw [hg]; exact Nat.ne_of_lt (blk_lt (g := gb850) (o := .cells #[.int .i64 t845, .slice Ao14 t846.length co14] 37 (0, 0)) (by (with_reducible repeat (first | refine blk_drewN ?_ _ | refine blk_drew ?_ | refine blk_alloc ?_ _)); exact BK850.out)) : gb850 ≠ gb879)); have n11_ := Aside0.mk ((by rw [hg]; exact Nat.ne_of_gt (blk_lt (g := gb850) (o := .cells #[.int .i64 t845, .slice Ao14 t846.length co14] 37 (0, 0)) (by (with_reducible repeat (first | refine blk_drewN ?_ _ | refine blk_drew ?_ | refine blk_alloc ?_ _)); exact BK850.out)) : gb879 ≠ gb850)); have n12_ := Aside0.mk ((by rw [hg]; exact Nat.ne_of_lt (blk_lt (g := gb859) (o := .cells #[.int .i64 t854, .slice Ao21 t855.length co21] 37 (0, 0)) (by (with_reducible repeat (first | refine blk_drewN ?_ _ | refine blk_drew ?_ | refine blk_alloc ?_ _)); exact BK859.out)) : gb859 ≠ gb879)); have n13_ := Aside0.mk ((by rw [hg]; exact Nat.ne_of_gt (blk_lt (g := gb859) (o := .cells #[.int .i64 t854, .slice Ao21 t855.length co21] 37 (0, 0)) (by (with_reducible repeat (first | refine blk_drewN ?_ _ | refine blk_drew ?_ | refine blk_alloc ?_ _)); exact BK859.out)) : gb879 ≠ gb859)); clear HO_851001; clear HO_860001; clear HO873; clear HO877; clear BK850; clear BK859; clear HB; have HO_851001 := n0_; have HO_860001 := n1_; have HO873 := n2_; have HO877 := n3_; have BK850 := n4_; have BK859 := n5_; have HB := n6_; have BK879 := n7_; have GW879 := n8_; have GE879 := n9_; have NB850_879 := n10_; have NB879_850 := n11_; have NB859_879 := n12_; have NB879_859 := n13_; clear n0_ n1_ n2_ n3_ n4_ n5_ n6_ n7_ n8_ n9_ n10_ n11_ n12_ n13_; clear hb hbox hg; have hnb74 := NB879_850.out; have hnc74 := NB850_879.out; have hnb75 := NB879_859.out; have hnc75 := NB859_879.out; have hcz76_0 : w73.cell? ⟨gb879, 0, none⟩ = some (.int .i64 0) := (blk_cell BK879.out 0).trans rfl; have hcz76_1 : w73.cell? ⟨gb879, 1, none⟩ = some (.slice none 0 0) := (blk_cell BK879.out 1).trans rfl; have hfz76_0 := blk_frozen BK879.out 0; have hfz76_1 := blk_frozen BK879.out 1; obtain ⟨Ao77, co77, eo77⟩ := Kd.R_slice HO877.out; subst eo77))
                      (try simp only [Act.put, List.setIfInBounds_toArray, List.set_cons_zero, List.set_cons_succ])
                      go_cut [89] (fun v89 wc => ∃ (kq : Nat) (x89_63 : Bool), v89 = .bool x89_63 ∧ Aside0 (laws_FnExactSpaceWith.j2 kq t868 x89_63 t854 t869 = some r) ∧ Aside0 (kq ≤ kj36) ∧ Aside0 (Kd.R (Kd.int .i64) 3 wc w.heap.size (fun k_ => some k_ ≠ ((.slice Ao21 t855.length co21) : Value).ownBlock ∧ some k_ ≠ ((.slice Ao77 t875.length co77) : Value).ownBlock) (.slice Ao14 t846.length co14) t846) ∧ Aside0 (Kd.R (Kd.int .i64) 3 wc w.heap.size (fun k_ => some k_ ≠ ((.slice Ao14 t846.length co14) : Value).ownBlock ∧ some k_ ≠ ((.slice Ao77 t875.length co77) : Value).ownBlock) (.slice Ao21 t855.length co21) t869) ∧ Aside0 (Kd.R (Kd.int .i64) 3 wc w.heap.size (fun k_ => some k_ ≠ ((.slice Ao14 t846.length co14) : Value).ownBlock ∧ some k_ ≠ ((.slice Ao21 t855.length co21) : Value).ownBlock) (.slice Ao77 t875.length co77) t875) ∧ Aside0 (wc.heap[gb850]? = some (.cells #[.int .i64 t845, (.slice Ao14 t846.length co14)] 37 (0, 0))) ∧ Aside0 (wc.heap[gb859]? = some (.cells #[.int .i64 t854, (.slice Ao21 t855.length co21)] 37 (0, 0))) ∧ Aside0 (wc.heap[gb879]? = some (.cells #[.int .i64 t874, (.slice Ao77 t875.length co77)] 37 (0, 0))) ∧ Aside0 (Below w.heap.size w wc))
                      case first =>
                        have H := HC64.out
                        clear HC64
                        replace H := Option.bind_eq_some_iff.mp H
                        obtain ⟨t880, A780, H⟩ := H
                        replace H : (if t880 = true then (laws_FnExactSpaceWith.j2 kj36 t868 (t878 != t849) t854 t869) else (laws_FnExactSpaceWith.j2 kj36 t868 true t854 t869)) = some r := H
                        have A78 := Aside0.mk A780
                        clear A780
                        by_cases c79 : t880 = true
                        · subst c79
                          have H1 : (laws_FnExactSpaceWith.j2 kj36 t868 (t878 != t849) t854 t869) = some r := by rw [if_pos rfl] at H; exact H
                          clear H
                          have H := H1
                          clear H1
                          have H' := Aside0.mk H
                          clear H
                          have hnb80 := NB879_850.out
                          have hnc80 := NB850_879.out
                          have hnb81 := NB879_859.out
                          have hnc81 := NB859_879.out
                          have hcz82_0 : w73.cell? ⟨gb879, 0, none⟩ = some (.int .i64 0) := (blk_cell BK879.out 0).trans rfl
                          have hcz82_1 : w73.cell? ⟨gb879, 1, none⟩ = some (.slice none 0 0) := (blk_cell BK879.out 1).trans rfl
                          have hfz82_0 := blk_frozen BK879.out 0
                          have hfz82_1 := blk_frozen BK879.out 1
                          have hnb83 := NB850_859.out
                          have hnc83 := NB859_850.out
                          have hcz84_0 : w73.cell? ⟨gb850, 0, none⟩ = some (.int .i64 t845) := (blk_cell BK850.out 0).trans rfl
                          have hcz84_1 : w73.cell? ⟨gb850, 1, none⟩ = some (.slice Ao14 t846.length co14) := (blk_cell BK850.out 1).trans rfl
                          have hfz84_0 := blk_frozen BK850.out 0
                          have hfz84_1 := blk_frozen BK850.out 1
                          go_wp2_with (first | ((with_reducible refine gate_callee (f := 24) rfl ?_); refine goesL_ (some 83) rfl rfl Try.func24 (by kernel_rfl) rfl #[.agg #[.int .i64 t874, .slice Ao77 t875.length co77], .agg #[.int .i64 t845, .slice Ao14 t846.length co14]] rfl (by (try simp only [List.map_toArray, List.map_cons, List.map_nil]); first | done | rfl | (simp only [List.length_drop, List.length_take]; rfl)) ?_; (with_reducible refine (laws_eqSpace.calls kj36 t874 _ _ t875 t845 _ _ t846 true _ ?side1 ?side2 ?side3 ?side4 A78.out).mono ?_); (case side1 => refine (Kd.R_reads' (e := 3) (base := w.heap.size) (ok := fun k_ => (((True ∧ some k_ ≠ (.slice Ao14 t846.length co14 : Value).ownBlock) ∧ some k_ ≠ (.slice Ao21 t855.length co21 : Value).ownBlock) ∧ some k_ ≠ (.slice Ao71 t871.length co71 : Value).ownBlock)) (n := t875.length) (c := co77) ?_).2.2; exact (by (with_reducible repeat (first | apply Kd.R_alloc | apply Kd.R_drewN | apply Kd.R_drew)); exact (Kd.R_mono (Kd.R_far (p := ⟨gb879, 1, none⟩) (Kd.R_far (p := ⟨gb879, 0, none⟩) (Kd.R_types HO877.out BK879.out (by decide)) (fun _ hk => hk.2) (.int .i64 t874)) (fun _ hk => hk.2) (.slice Ao77 t875.length co77)) (fun _ h_ => h_.1)))); (case side2 => exact (Kd.R_reads' HO877.out).2.1); (case side3 => refine (Kd.R_reads' (e := 3) (base := w.heap.size) (ok := fun k_ => ((some k_ ≠ (.slice Ao21 t855.length co21 : Value).ownBlock ∧ some k_ ≠ (.slice Ao71 t871.length co71 : Value).ownBlock) ∧ some k_ ≠ (.slice Ao77 t875.length co77 : Value).ownBlock)) (n := t846.length) (c := co14) ?_).2.2; exact (by (with_reducible repeat (first | apply Kd.R_alloc | apply Kd.R_drewN | apply Kd.R_drew)); exact (Kd.R_mono (Kd.R_far (p := ⟨gb879, 1, none⟩) (Kd.R_far (p := ⟨gb879, 0, none⟩) (Kd.R_types HO_851001.out BK879.out (by decide)) (fun _ hk => hk.2) (.int .i64 t874)) (fun _ hk => hk.2) (.slice Ao77 t875.length co77)) (fun _ h_ => h_.1)))); (case side4 => exact (Kd.R_reads' HO_851001.out).2.1); rintro e w85 ⟨rfl, hb⟩; refine ⟨_, rfl, ?_⟩; have n0_ := Aside0.mk (Kd.R_below (by (with_reducible repeat (first | apply Kd.R_alloc | apply Kd.R_drewN | apply Kd.R_drew)); exact (Kd.R_mono (Kd.R_far (p := ⟨gb879, 1, none⟩) (Kd.R_far (p := ⟨gb879, 0, none⟩) (Kd.R_types HO_851001.out BK879.out (by decide)) (fun _ hk => hk.2) (.int .i64 t874)) (fun _ hk => hk.2) (.slice Ao77 t875.length co77)) (fun _ h_ => h_.1))) hb); have n1_ := Aside0.mk (Kd.R_below (by (with_reducible repeat (first | apply Kd.R_alloc | apply Kd.R_drewN | apply Kd.R_drew)); exact (Kd.R_mono (Kd.R_far (p := ⟨gb879, 1, none⟩) (Kd.R_far (p := ⟨gb879, 0, none⟩) (Kd.R_types HO_860001.out BK879.out (by decide)) (fun _ hk => hk.2) (.int .i64 t874)) (fun _ hk => hk.2) (.slice Ao77 t875.length co77)) (fun _ h_ => h_.1))) hb); have n2_ := Aside0.mk (Kd.R_below (by (with_reducible repeat (first | apply Kd.R_alloc | apply Kd.R_drewN | apply Kd.R_drew)); exact (Kd.R_mono (Kd.R_far (p := ⟨gb879, 1, none⟩) (Kd.R_far (p := ⟨gb879, 0, none⟩) (Kd.R_types HO873.out BK879.out (by decide)) (fun _ hk => hk.2) (.int .i64 t874)) (fun _ hk => hk.2) (.slice Ao77 t875.length co77)) (fun _ h_ => h_.1))) hb); have n3_ := Aside0.mk (Kd.R_below (by (with_reducible repeat (first | apply Kd.R_alloc | apply Kd.R_drewN | apply Kd.R_drew)); exact (Kd.R_mono (Kd.R_far (p := ⟨gb879, 1, none⟩) (Kd.R_far (p := ⟨gb879, 0, none⟩) (Kd.R_types HO877.out BK879.out (by decide)) (fun _ hk => hk.2) (.int .i64 t874)) (fun _ hk => hk.2) (.slice Ao77 t875.length co77)) (fun _ h_ => h_.1))) hb); have n4_ := Aside0.mk (blk_below (g := gb850) (o := .cells #[.int .i64 t845, .slice Ao14 t846.length co14] 37 (0, 0)) (by (with_reducible repeat (first | refine blk_drewN ?_ _ | refine blk_drew ?_ | refine blk_alloc ?_ _)); refine blk_far ?_ NB850_879.out _; (with_reducible repeat (first | refine blk_drewN ?_ _ | refine blk_drew ?_ | refine blk_alloc ?_ _)); refine blk_far ?_ NB850_879.out _; (with_reducible repeat (first | refine blk_drewN ?_ _ | refine blk_drew ?_ | refine blk_alloc ?_ _)); exact BK850.out) hb); have n5_ := Aside0.mk (blk_below (g := gb859) (o := .cells #[.int .i64 t854, .slice Ao21 t855.length co21] 37 (0, 0)) (by (with_reducible repeat (first | refine blk_drewN ?_ _ | refine blk_drew ?_ | refine blk_alloc ?_ _)); refine blk_far ?_ NB859_879.out _; (with_reducible repeat (first | refine blk_drewN ?_ _ | refine blk_drew ?_ | refine blk_alloc ?_ _)); refine blk_far ?_ NB859_879.out _; (with_reducible repeat (first | refine blk_drewN ?_ _ | refine blk_drew ?_ | refine blk_alloc ?_ _)); exact BK859.out) hb); have n6_ := Aside0.mk (blk_below (g := gb879) (o := .cells #[.int .i64 t874, .slice Ao77 t875.length co77] 37 (0, 0)) (by (with_reducible repeat (first | refine blk_drewN ?_ _ | refine blk_drew ?_ | refine blk_alloc ?_ _)); refine blk_put (cs := #[.int .i64 t874, .slice none 0 0]) ?_ 1 _ rfl; (with_reducible repeat (first | refine blk_drewN ?_ _ | refine blk_drew ?_ | refine blk_alloc ?_ _)); refine blk_put (cs := #[.int .i64 0, .slice none 0 0]) ?_ 0 _ rfl; (with_reducible repeat (first | refine blk_drewN ?_ _ | refine blk_drew ?_ | refine blk_alloc ?_ _)); exact BK879.out) hb); have n7_ := Aside0.mk (below_step (by repeat (first | (with_reducible first | exact HB.out | apply below_alloc | apply pw_below_drewN | apply below_drew1 | refine below_set ?_ GE850.out | refine below_set ?_ GE859.out | refine below_set ?_ GE879.out) | exact HB.out)) hb); clear HO_851001; clear HO_860001; clear HO873; clear HO877; clear BK850; clear BK859; clear BK879; clear HB; have HO_851001 := n0_; have HO_860001 := n1_; have HO873 := n2_; have HO877 := n3_; have BK850 := n4_; have BK859 := n5_; have BK879 := n6_; have HB := n7_; clear n0_ n1_ n2_ n3_ n4_ n5_ n6_ n7_; (try clear hb); (try clear hb2); (try clear hk); (try clear hi)))
                          go_meet
                          case rel => exact ⟨_, ((t878 != t849)), (by first | rfl | (simp; done) | (simp [*]; done)), H', ⟨by have := HJ7.out; have := HJ36.out; first | omega | exact Nat.le_refl _⟩, ⟨by (with_reducible repeat (first | apply Kd.R_alloc | apply Kd.R_drewN | apply Kd.R_drew)); exact Kd.R_mono HO_851001.out (fun _ hk => ⟨hk.1.1, hk.2⟩)⟩, ⟨by (with_reducible repeat (first | apply Kd.R_alloc | apply Kd.R_drewN | apply Kd.R_drew)); exact Kd.R_mono HO_860001.out (fun _ hk => ⟨hk.1.1, hk.2⟩)⟩, ⟨by (with_reducible repeat (first | apply Kd.R_alloc | apply Kd.R_drewN | apply Kd.R_drew)); exact Kd.R_mono HO877.out (fun _ hk => ⟨hk.1.1.2, hk.1.2⟩)⟩, ⟨by (with_reducible repeat (first | refine blk_drewN ?_ _ | refine blk_drew ?_ | refine blk_alloc ?_ _)); exact BK850.out⟩, ⟨by (with_reducible repeat (first | refine blk_drewN ?_ _ | refine blk_drew ?_ | refine blk_alloc ?_ _)); exact BK859.out⟩, ⟨by (with_reducible repeat (first | refine blk_drewN ?_ _ | refine blk_drew ?_ | refine blk_alloc ?_ _)); exact BK879.out⟩, ⟨by repeat (first | (with_reducible first | exact HB.out | apply below_alloc | apply pw_below_drewN | apply below_drew1 | refine below_set ?_ GE850.out | refine below_set ?_ GE859.out | refine below_set ?_ GE879.out) | exact HB.out)⟩⟩
                        · replace c79 := Bool.eq_false_iff.mpr c79
                          subst c79
                          have H1 : (laws_FnExactSpaceWith.j2 kj36 t868 true t854 t869) = some r := by rw [if_neg (show ¬ (false = true) by decide)] at H; exact H
                          clear H
                          have H := H1
                          clear H1
                          have H' := Aside0.mk H
                          clear H
                          have hnb86 := NB879_850.out
                          have hnc86 := NB850_879.out
                          have hnb87 := NB879_859.out
                          have hnc87 := NB859_879.out
                          have hcz88_0 : w73.cell? ⟨gb879, 0, none⟩ = some (.int .i64 0) := (blk_cell BK879.out 0).trans rfl
                          have hcz88_1 : w73.cell? ⟨gb879, 1, none⟩ = some (.slice none 0 0) := (blk_cell BK879.out 1).trans rfl
                          have hfz88_0 := blk_frozen BK879.out 0
                          have hfz88_1 := blk_frozen BK879.out 1
                          have hnb89 := NB850_859.out
                          have hnc89 := NB859_850.out
                          have hcz90_0 : w73.cell? ⟨gb850, 0, none⟩ = some (.int .i64 t845) := (blk_cell BK850.out 0).trans rfl
                          have hcz90_1 : w73.cell? ⟨gb850, 1, none⟩ = some (.slice Ao14 t846.length co14) := (blk_cell BK850.out 1).trans rfl
                          have hfz90_0 := blk_frozen BK850.out 0
                          have hfz90_1 := blk_frozen BK850.out 1
                          go_wp2_with (first | ((with_reducible refine gate_callee (f := 24) rfl ?_); refine goesL_ (some 83) rfl rfl Try.func24 (by kernel_rfl) rfl #[.agg #[.int .i64 t874, .slice Ao77 t875.length co77], .agg #[.int .i64 t845, .slice Ao14 t846.length co14]] rfl (by (try simp only [List.map_toArray, List.map_cons, List.map_nil]); first | done | rfl | (simp only [List.length_drop, List.length_take]; rfl)) ?_; (with_reducible refine (laws_eqSpace.calls kj36 t874 _ _ t875 t845 _ _ t846 false _ ?side1 ?side2 ?side3 ?side4 A78.out).mono ?_); (case side1 => refine (Kd.R_reads' (e := 3) (base := w.heap.size) (ok := fun k_ => (((True ∧ some k_ ≠ (.slice Ao14 t846.length co14 : Value).ownBlock) ∧ some k_ ≠ (.slice Ao21 t855.length co21 : Value).ownBlock) ∧ some k_ ≠ (.slice Ao71 t871.length co71 : Value).ownBlock)) (n := t875.length) (c := co77) ?_).2.2; exact (by (with_reducible repeat (first | apply Kd.R_alloc | apply Kd.R_drewN | apply Kd.R_drew)); exact (Kd.R_mono (Kd.R_far (p := ⟨gb879, 1, none⟩) (Kd.R_far (p := ⟨gb879, 0, none⟩) (Kd.R_types HO877.out BK879.out (by decide)) (fun _ hk => hk.2) (.int .i64 t874)) (fun _ hk => hk.2) (.slice Ao77 t875.length co77)) (fun _ h_ => h_.1)))); (case side2 => exact (Kd.R_reads' HO877.out).2.1); (case side3 => refine (Kd.R_reads' (e := 3) (base := w.heap.size) (ok := fun k_ => ((some k_ ≠ (.slice Ao21 t855.length co21 : Value).ownBlock ∧ some k_ ≠ (.slice Ao71 t871.length co71 : Value).ownBlock) ∧ some k_ ≠ (.slice Ao77 t875.length co77 : Value).ownBlock)) (n := t846.length) (c := co14) ?_).2.2; exact (by (with_reducible repeat (first | apply Kd.R_alloc | apply Kd.R_drewN | apply Kd.R_drew)); exact (Kd.R_mono (Kd.R_far (p := ⟨gb879, 1, none⟩) (Kd.R_far (p := ⟨gb879, 0, none⟩) (Kd.R_types HO_851001.out BK879.out (by decide)) (fun _ hk => hk.2) (.int .i64 t874)) (fun _ hk => hk.2) (.slice Ao77 t875.length co77)) (fun _ h_ => h_.1)))); (case side4 => exact (Kd.R_reads' HO_851001.out).2.1); rintro e w91 ⟨rfl, hb⟩; refine ⟨_, rfl, ?_⟩; have n0_ := Aside0.mk (Kd.R_below (by (with_reducible repeat (first | apply Kd.R_alloc | apply Kd.R_drewN | apply Kd.R_drew)); exact (Kd.R_mono (Kd.R_far (p := ⟨gb879, 1, none⟩) (Kd.R_far (p := ⟨gb879, 0, none⟩) (Kd.R_types HO_851001.out BK879.out (by decide)) (fun _ hk => hk.2) (.int .i64 t874)) (fun _ hk => hk.2) (.slice Ao77 t875.length co77)) (fun _ h_ => h_.1))) hb); have n1_ := Aside0.mk (Kd.R_below (by (with_reducible repeat (first | apply Kd.R_alloc | apply Kd.R_drewN | apply Kd.R_drew)); exact (Kd.R_mono (Kd.R_far (p := ⟨gb879, 1, none⟩) (Kd.R_far (p := ⟨gb879, 0, none⟩) (Kd.R_types HO_860001.out BK879.out (by decide)) (fun _ hk => hk.2) (.int .i64 t874)) (fun _ hk => hk.2) (.slice Ao77 t875.length co77)) (fun _ h_ => h_.1))) hb); have n2_ := Aside0.mk (Kd.R_below (by (with_reducible repeat (first | apply Kd.R_alloc | apply Kd.R_drewN | apply Kd.R_drew)); exact (Kd.R_mono (Kd.R_far (p := ⟨gb879, 1, none⟩) (Kd.R_far (p := ⟨gb879, 0, none⟩) (Kd.R_types HO873.out BK879.out (by decide)) (fun _ hk => hk.2) (.int .i64 t874)) (fun _ hk => hk.2) (.slice Ao77 t875.length co77)) (fun _ h_ => h_.1))) hb); have n3_ := Aside0.mk (Kd.R_below (by (with_reducible repeat (first | apply Kd.R_alloc | apply Kd.R_drewN | apply Kd.R_drew)); exact (Kd.R_mono (Kd.R_far (p := ⟨gb879, 1, none⟩) (Kd.R_far (p := ⟨gb879, 0, none⟩) (Kd.R_types HO877.out BK879.out (by decide)) (fun _ hk => hk.2) (.int .i64 t874)) (fun _ hk => hk.2) (.slice Ao77 t875.length co77)) (fun _ h_ => h_.1))) hb); have n4_ := Aside0.mk (blk_below (g := gb850) (o := .cells #[.int .i64 t845, .slice Ao14 t846.length co14] 37 (0, 0)) (by (with_reducible repeat (first | refine blk_drewN ?_ _ | refine blk_drew ?_ | refine blk_alloc ?_ _)); refine blk_far ?_ NB850_879.out _; (with_reducible repeat (first | refine blk_drewN ?_ _ | refine blk_drew ?_ | refine blk_alloc ?_ _)); refine blk_far ?_ NB850_879.out _; (with_reducible repeat (first | refine blk_drewN ?_ _ | refine blk_drew ?_ | refine blk_alloc ?_ _)); exact BK850.out) hb); have n5_ := Aside0.mk (blk_below (g := gb859) (o := .cells #[.int .i64 t854, .slice Ao21 t855.length co21] 37 (0, 0)) (by (with_reducible repeat (first | refine blk_drewN ?_ _ | refine blk_drew ?_ | refine blk_alloc ?_ _)); refine blk_far ?_ NB859_879.out _; (with_reducible repeat (first | refine blk_drewN ?_ _ | refine blk_drew ?_ | refine blk_alloc ?_ _)); refine blk_far ?_ NB859_879.out _; (with_reducible repeat (first | refine blk_drewN ?_ _ | refine blk_drew ?_ | refine blk_alloc ?_ _)); exact BK859.out) hb); have n6_ := Aside0.mk (blk_below (g := gb879) (o := .cells #[.int .i64 t874, .slice Ao77 t875.length co77] 37 (0, 0)) (by (with_reducible repeat (first | refine blk_drewN ?_ _ | refine blk_drew ?_ | refine blk_alloc ?_ _)); refine blk_put (cs := #[.int .i64 t874, .slice none 0 0]) ?_ 1 _ rfl; (with_reducible repeat (first | refine blk_drewN ?_ _ | refine blk_drew ?_ | refine blk_alloc ?_ _)); refine blk_put (cs := #[.int .i64 0, .slice none 0 0]) ?_ 0 _ rfl; (with_reducible repeat (first | refine blk_drewN ?_ _ | refine blk_drew ?_ | refine blk_alloc ?_ _)); exact BK879.out) hb); have n7_ := Aside0.mk (below_step (by repeat (first | (with_reducible first | exact HB.out | apply below_alloc | apply pw_below_drewN | apply below_drew1 | refine below_set ?_ GE850.out | refine below_set ?_ GE859.out | refine below_set ?_ GE879.out) | exact HB.out)) hb); clear HO_851001; clear HO_860001; clear HO873; clear HO877; clear BK850; clear BK859; clear BK879; clear HB; have HO_851001 := n0_; have HO_860001 := n1_; have HO873 := n2_; have HO877 := n3_; have BK850 := n4_; have BK859 := n5_; have BK879 := n6_; have HB := n7_; clear n0_ n1_ n2_ n3_ n4_ n5_ n6_ n7_; (try clear hb); (try clear hb2); (try clear hk); (try clear hi)))
                          go_meet
                          case rel => exact ⟨_, (true), (by first | rfl | (simp; done) | (simp [*]; done)), H', ⟨by have := HJ7.out; have := HJ36.out; first | omega | exact Nat.le_refl _⟩, ⟨by (with_reducible repeat (first | apply Kd.R_alloc | apply Kd.R_drewN | apply Kd.R_drew)); exact Kd.R_mono HO_851001.out (fun _ hk => ⟨hk.1.1, hk.2⟩)⟩, ⟨by (with_reducible repeat (first | apply Kd.R_alloc | apply Kd.R_drewN | apply Kd.R_drew)); exact Kd.R_mono HO_860001.out (fun _ hk => ⟨hk.1.1, hk.2⟩)⟩, ⟨by (with_reducible repeat (first | apply Kd.R_alloc | apply Kd.R_drewN | apply Kd.R_drew)); exact Kd.R_mono HO877.out (fun _ hk => ⟨hk.1.1.2, hk.1.2⟩)⟩, ⟨by (with_reducible repeat (first | refine blk_drewN ?_ _ | refine blk_drew ?_ | refine blk_alloc ?_ _)); exact BK850.out⟩, ⟨by (with_reducible repeat (first | refine blk_drewN ?_ _ | refine blk_drew ?_ | refine blk_alloc ?_ _)); exact BK859.out⟩, ⟨by (with_reducible repeat (first | refine blk_drewN ?_ _ | refine blk_drew ?_ | refine blk_alloc ?_ _)); exact BK879.out⟩, ⟨by repeat (first | (with_reducible first | exact HB.out | apply below_alloc | apply pw_below_drewN | apply below_drew1 | refine below_set ?_ GE850.out | refine below_set ?_ GE859.out | refine below_set ?_ GE879.out) | exact HB.out)⟩⟩
                      case rest =>
                        clear HC64
                        try clear c1
                        try clear c2
                        try clear p2
                        try clear c3
                        try clear c3b0
                        try clear c3b1
                        try clear c4
                        try clear c5
                        try clear c6
                        try clear c7
                        try clear c8
                        try clear c12
                        try clear c19
                        try clear c23
                        try clear c24
                        try clear c28
                        try clear c32
                        try clear c35
                        try clear c36
                        try clear c37
                        try clear c38
                        try clear c41
                        try clear c41b0
                        try clear c43
                        try clear c44
                        try clear c45
                        try clear c48
                        try clear c49
                        try clear c50
                        try clear c52
                        try clear c55
                        try clear c55b0
                        try clear c56
                        try clear c61
                        try clear c61b0
                        try clear c61b1
                        try clear c65
                        try clear c74
                        try clear c75
                        try clear c79
                        try clear c80
                        try clear c81
                        try clear c83
                        try clear c86
                        try clear c87
                        try clear c89
                        try clear hcz13_0
                        try clear hcz13_1
                        try clear hcz20_0
                        try clear hcz20_1
                        try clear hcz25_0
                        try clear hcz25_1
                        try clear hcz26_0
                        try clear hcz26_1
                        try clear hcz29_0
                        try clear hcz29_1
                        try clear hcz30_0
                        try clear hcz30_1
                        try clear hcz45_0
                        try clear hcz45_1
                        try clear hcz46_0
                        try clear hcz46_1
                        try clear hcz49_0
                        try clear hcz49_1
                        try clear hcz50_0
                        try clear hcz50_1
                        try clear hcz57_0
                        try clear hcz57_1
                        try clear hcz59_0
                        try clear hcz59_1
                        try clear hcz66_0
                        try clear hcz66_1
                        try clear hcz68_0
                        try clear hcz68_1
                        try clear hcz76_0
                        try clear hcz76_1
                        try clear hcz82_0
                        try clear hcz82_1
                        try clear hcz84_0
                        try clear hcz84_1
                        try clear hcz88_0
                        try clear hcz88_1
                        try clear hcz90_0
                        try clear hcz90_1
                        try clear hfz13_0
                        try clear hfz13_1
                        try clear hfz20_0
                        try clear hfz20_1
                        try clear hfz25_0
                        try clear hfz25_1
                        try clear hfz26_0
                        try clear hfz26_1
                        try clear hfz29_0
                        try clear hfz29_1
                        try clear hfz30_0
                        try clear hfz30_1
                        try clear hfz45_0
                        try clear hfz45_1
                        try clear hfz46_0
                        try clear hfz46_1
                        try clear hfz49_0
                        try clear hfz49_1
                        try clear hfz50_0
                        try clear hfz50_1
                        try clear hfz57_0
                        try clear hfz57_1
                        try clear hfz59_0
                        try clear hfz59_1
                        try clear hfz66_0
                        try clear hfz66_1
                        try clear hfz68_0
                        try clear hfz68_1
                        try clear hfz76_0
                        try clear hfz76_1
                        try clear hfz82_0
                        try clear hfz82_1
                        try clear hfz84_0
                        try clear hfz84_1
                        try clear hfz88_0
                        try clear hfz88_1
                        try clear hfz90_0
                        try clear hfz90_1
                        try clear p2
                        obtain ⟨kq, x89_63, rfl, HA, HJ63, HO_851001, HO_860001, HO_880001, BK850, BK859, BK879, HB⟩ := hcut
                        have hl860001_63 := (Kd.R_reads' HO_860001.out).1
                        rw [hl860001_63] at HO_860001
                        (try simp only [hl860001_63])
                        (try simp only [hl860001_63] at BK850)
                        (try simp only [hl860001_63] at BK859)
                        (try simp only [hl860001_63] at BK879)
                        (try simp only [hl860001_63] at HO_851001)
                        (try simp only [hl860001_63] at HO_880001)
                        cases kq with
                        | zero => exact absurd HA.out (by simp [laws_FnExactSpaceWith.j2])
                        | succ kj63 =>
                          have H := HA.out
                          clear HA
                          simp only [laws_FnExactSpaceWith.j2] at H
                          by_cases c92 : x89_63 = true
                          · subst c92
                            have H1 : (some false) = some r := by rw [if_pos rfl] at H; exact H
                            clear H
                            have H := H1
                            clear H1
                            obtain rfl := Option.some.inj H
                            go_wp2
                            go_ret
                            exact ⟨by first | rfl | (simp [errW_none, errW_some] <;> rfl) | (simp [*, errW_none, errW_some] <;> rfl), by repeat (first | (with_reducible first | exact HB.out | apply below_alloc | apply pw_below_drewN | apply below_drew1 | refine below_set ?_ GE850.out | refine below_set ?_ GE859.out | refine below_set ?_ GE879.out) | exact HB.out)⟩
                          · replace c92 := Bool.eq_false_iff.mpr c92
                            subst c92
                            have H1 : ((laws_heldSpace.f kj63 t854 t869 1).bind fun t881 => (if t881 < 0 then (some false) else (if t881 = t868 then (some true) else (some false)))) = some r := by rw [if_neg (show ¬ (false = true) by decide)] at H; exact H
                            clear H
                            have H := H1
                            clear H1
                            replace H := Option.bind_eq_some_iff.mp H
                            obtain ⟨t881, A930, H⟩ := H
                            replace H : (if t881 < 0 then (some false) else (if t881 = t868 then (some true) else (some false))) = some r := H
                            have A93 := Aside0.mk A930
                            clear A930
                            by_cases c94 : t881 < 0
                            · rw [if_pos c94] at H
                              have c94b0 : decide (t881 < 0) = true := decide_eq_true c94
                              clear c94
                              obtain rfl := Option.some.inj H
                              have hnb95 := NB859_850.out
                              have hnc95 := NB850_859.out
                              have hnb96 := NB859_879.out
                              have hnc96 := NB879_859.out
                              have hcz97_0 : wc.cell? ⟨gb859, 0, none⟩ = some (.int .i64 t854) := (blk_cell BK859.out 0).trans rfl
                              have hcz97_1 : wc.cell? ⟨gb859, 1, none⟩ = some (.slice Ao21 t869.length co21) := (blk_cell BK859.out 1).trans rfl
                              have hfz97_0 := blk_frozen BK859.out 0
                              have hfz97_1 := blk_frozen BK859.out 1
                              go_wp2_with (first | ((with_reducible refine gate_callee (f := 45) rfl ?_); refine goesL_ (some 92) rfl rfl Try.func45 (by kernel_rfl) rfl #[.agg #[.int .i64 t854, .slice Ao21 t869.length co21], .int .i64 1] rfl (by (try simp only [List.map_toArray, List.map_cons, List.map_nil]); first | done | rfl | (simp only [List.length_drop, List.length_take]; rfl)) ?_; (with_reducible refine (laws_heldSpace.calls kj63 t854 _ _ t869 1 t881 _ ?side1 ?side2 A93.out).mono ?_); (case side1 => repeat (first | exact (Kd.R_reads' HO_860001.out).2.2 | (with_reducible refine Kd.C_alloc ?_ _) | (with_reducible refine Kd.C_drewN ?_ _) | (with_reducible refine Kd.C_drew ?_))); (case side2 => exact (Kd.R_reads' HO_860001.out).2.1); rintro e w98 ⟨rfl, hb⟩; refine ⟨_, rfl, ?_⟩; have n0_ := Aside0.mk (Kd.R_below (by (with_reducible repeat (first | apply Kd.R_alloc | apply Kd.R_drewN | apply Kd.R_drew)); exact HO_851001.out) hb); have n1_ := Aside0.mk (Kd.R_below (by (with_reducible repeat (first | apply Kd.R_alloc | apply Kd.R_drewN | apply Kd.R_drew)); exact HO_860001.out) hb); have n2_ := Aside0.mk (Kd.R_below (by (with_reducible repeat (first | apply Kd.R_alloc | apply Kd.R_drewN | apply Kd.R_drew)); exact HO_880001.out) hb); have n3_ := Aside0.mk (blk_below (g := gb850) (o := .cells #[.int .i64 t845, .slice Ao14 t846.length co14] 37 (0, 0)) (by (with_reducible repeat (first | refine blk_drewN ?_ _ | refine blk_drew ?_ | refine blk_alloc ?_ _)); exact BK850.out) hb); have n4_ := Aside0.mk (blk_below (g := gb859) (o := .cells #[.int .i64 t854, .slice Ao21 t869.length co21] 37 (0, 0)) (by (with_reducible repeat (first | refine blk_drewN ?_ _ | refine blk_drew ?_ | refine blk_alloc ?_ _)); exact BK859.out) hb); have n5_ := Aside0.mk (blk_below (g := gb879) (o := .cells #[.int .i64 t874, .slice Ao77 t875.length co77] 37 (0, 0)) (by (with_reducible repeat (first | refine blk_drewN ?_ _ | refine blk_drew ?_ | refine blk_alloc ?_ _)); exact BK879.out) hb); have n6_ := Aside0.mk (below_step (by repeat (first | (with_reducible first | exact HB.out | apply below_alloc | apply pw_below_drewN | apply below_drew1 | refine below_set ?_ GE850.out | refine below_set ?_ GE859.out | refine below_set ?_ GE879.out) | exact HB.out)) hb); clear HO_851001; clear HO_860001; clear HO_880001; clear BK850; clear BK859; clear BK879; clear HB; have HO_851001 := n0_; have HO_860001 := n1_; have HO_880001 := n2_; have BK850 := n3_; have BK859 := n4_; have BK879 := n5_; have HB := n6_; clear n0_ n1_ n2_ n3_ n4_ n5_ n6_; (try clear hb); (try clear hb2); (try clear hk); (try clear hi)))
                              go_ret
                              exact ⟨by first | rfl | (simp [errW_none, errW_some] <;> rfl) | (simp [*, errW_none, errW_some] <;> rfl), by repeat (first | (with_reducible first | exact HB.out | apply below_alloc | apply pw_below_drewN | apply below_drew1 | refine below_set ?_ GE850.out | refine below_set ?_ GE859.out | refine below_set ?_ GE879.out) | exact HB.out)⟩
                            · rw [if_neg c94] at H
                              have c94b0 : decide (t881 < 0) = false := decide_eq_false c94
                              clear c94
                              by_cases c99 : t881 = t868
                              · rw [if_pos c99] at H
                                have c99b0 : (t881 == t868) = true := beq_iff_eq.mpr c99
                                have c99b1 : (t881 != t868) = false := bne_eq_false_iff_eq.mpr c99
                                clear c99
                                obtain rfl := Option.some.inj H
                                have hnb100 := NB859_850.out
                                have hnc100 := NB850_859.out
                                have hnb101 := NB859_879.out
                                have hnc101 := NB879_859.out
                                have hcz102_0 : wc.cell? ⟨gb859, 0, none⟩ = some (.int .i64 t854) := (blk_cell BK859.out 0).trans rfl
                                have hcz102_1 : wc.cell? ⟨gb859, 1, none⟩ = some (.slice Ao21 t869.length co21) := (blk_cell BK859.out 1).trans rfl
                                have hfz102_0 := blk_frozen BK859.out 0
                                have hfz102_1 := blk_frozen BK859.out 1
                                go_wp2_with (first | ((with_reducible refine gate_callee (f := 45) rfl ?_); refine goesL_ (some 92) rfl rfl Try.func45 (by kernel_rfl) rfl #[.agg #[.int .i64 t854, .slice Ao21 t869.length co21], .int .i64 1] rfl (by (try simp only [List.map_toArray, List.map_cons, List.map_nil]); first | done | rfl | (simp only [List.length_drop, List.length_take]; rfl)) ?_; (with_reducible refine (laws_heldSpace.calls kj63 t854 _ _ t869 1 t881 _ ?side1 ?side2 A93.out).mono ?_); (case side1 => repeat (first | exact (Kd.R_reads' HO_860001.out).2.2 | (with_reducible refine Kd.C_alloc ?_ _) | (with_reducible refine Kd.C_drewN ?_ _) | (with_reducible refine Kd.C_drew ?_))); (case side2 => exact (Kd.R_reads' HO_860001.out).2.1); rintro e w103 ⟨rfl, hb⟩; refine ⟨_, rfl, ?_⟩; have n0_ := Aside0.mk (Kd.R_below (by (with_reducible repeat (first | apply Kd.R_alloc | apply Kd.R_drewN | apply Kd.R_drew)); exact HO_851001.out) hb); have n1_ := Aside0.mk (Kd.R_below (by (with_reducible repeat (first | apply Kd.R_alloc | apply Kd.R_drewN | apply Kd.R_drew)); exact HO_860001.out) hb); have n2_ := Aside0.mk (Kd.R_below (by (with_reducible repeat (first | apply Kd.R_alloc | apply Kd.R_drewN | apply Kd.R_drew)); exact HO_880001.out) hb); have n3_ := Aside0.mk (blk_below (g := gb850) (o := .cells #[.int .i64 t845, .slice Ao14 t846.length co14] 37 (0, 0)) (by (with_reducible repeat (first | refine blk_drewN ?_ _ | refine blk_drew ?_ | refine blk_alloc ?_ _)); exact BK850.out) hb); have n4_ := Aside0.mk (blk_below (g := gb859) (o := .cells #[.int .i64 t854, .slice Ao21 t869.length co21] 37 (0, 0)) (by (with_reducible repeat (first | refine blk_drewN ?_ _ | refine blk_drew ?_ | refine blk_alloc ?_ _)); exact BK859.out) hb); have n5_ := Aside0.mk (blk_below (g := gb879) (o := .cells #[.int .i64 t874, .slice Ao77 t875.length co77] 37 (0, 0)) (by (with_reducible repeat (first | refine blk_drewN ?_ _ | refine blk_drew ?_ | refine blk_alloc ?_ _)); exact BK879.out) hb); have n6_ := Aside0.mk (below_step (by repeat (first | (with_reducible first | exact HB.out | apply below_alloc | apply pw_below_drewN | apply below_drew1 | refine below_set ?_ GE850.out | refine below_set ?_ GE859.out | refine below_set ?_ GE879.out) | exact HB.out)) hb); clear HO_851001; clear HO_860001; clear HO_880001; clear BK850; clear BK859; clear BK879; clear HB; have HO_851001 := n0_; have HO_860001 := n1_; have HO_880001 := n2_; have BK850 := n3_; have BK859 := n4_; have BK879 := n5_; have HB := n6_; clear n0_ n1_ n2_ n3_ n4_ n5_ n6_; (try clear hb); (try clear hb2); (try clear hk); (try clear hi)))
                                go_ret
                                exact ⟨by first | rfl | (simp [errW_none, errW_some] <;> rfl) | (simp [*, errW_none, errW_some] <;> rfl), by repeat (first | (with_reducible first | exact HB.out | apply below_alloc | apply pw_below_drewN | apply below_drew1 | refine below_set ?_ GE850.out | refine below_set ?_ GE859.out | refine below_set ?_ GE879.out) | exact HB.out)⟩
                              · rw [if_neg c99] at H
                                have c99b0 : (t881 == t868) = false := beq_eq_false_iff_ne.mpr c99
                                have c99b1 : (t881 != t868) = true := bne_iff_ne.mpr c99
                                obtain rfl := Option.some.inj H
                                have hnb104 := NB859_850.out
                                have hnc104 := NB850_859.out
                                have hnb105 := NB859_879.out
                                have hnc105 := NB879_859.out
                                have hcz106_0 : wc.cell? ⟨gb859, 0, none⟩ = some (.int .i64 t854) := (blk_cell BK859.out 0).trans rfl
                                have hcz106_1 : wc.cell? ⟨gb859, 1, none⟩ = some (.slice Ao21 t869.length co21) := (blk_cell BK859.out 1).trans rfl
                                have hfz106_0 := blk_frozen BK859.out 0
                                have hfz106_1 := blk_frozen BK859.out 1
                                go_wp2_with (first | ((with_reducible refine gate_callee (f := 45) rfl ?_); refine goesL_ (some 92) rfl rfl Try.func45 (by kernel_rfl) rfl #[.agg #[.int .i64 t854, .slice Ao21 t869.length co21], .int .i64 1] rfl (by (try simp only [List.map_toArray, List.map_cons, List.map_nil]); first | done | rfl | (simp only [List.length_drop, List.length_take]; rfl)) ?_; (with_reducible refine (laws_heldSpace.calls kj63 t854 _ _ t869 1 t881 _ ?side1 ?side2 A93.out).mono ?_); (case side1 => repeat (first | exact (Kd.R_reads' HO_860001.out).2.2 | (with_reducible refine Kd.C_alloc ?_ _) | (with_reducible refine Kd.C_drewN ?_ _) | (with_reducible refine Kd.C_drew ?_))); (case side2 => exact (Kd.R_reads' HO_860001.out).2.1); rintro e w107 ⟨rfl, hb⟩; refine ⟨_, rfl, ?_⟩; have n0_ := Aside0.mk (Kd.R_below (by (with_reducible repeat (first | apply Kd.R_alloc | apply Kd.R_drewN | apply Kd.R_drew)); exact HO_851001.out) hb); have n1_ := Aside0.mk (Kd.R_below (by (with_reducible repeat (first | apply Kd.R_alloc | apply Kd.R_drewN | apply Kd.R_drew)); exact HO_860001.out) hb); have n2_ := Aside0.mk (Kd.R_below (by (with_reducible repeat (first | apply Kd.R_alloc | apply Kd.R_drewN | apply Kd.R_drew)); exact HO_880001.out) hb); have n3_ := Aside0.mk (blk_below (g := gb850) (o := .cells #[.int .i64 t845, .slice Ao14 t846.length co14] 37 (0, 0)) (by (with_reducible repeat (first | refine blk_drewN ?_ _ | refine blk_drew ?_ | refine blk_alloc ?_ _)); exact BK850.out) hb); have n4_ := Aside0.mk (blk_below (g := gb859) (o := .cells #[.int .i64 t854, .slice Ao21 t869.length co21] 37 (0, 0)) (by (with_reducible repeat (first | refine blk_drewN ?_ _ | refine blk_drew ?_ | refine blk_alloc ?_ _)); exact BK859.out) hb); have n5_ := Aside0.mk (blk_below (g := gb879) (o := .cells #[.int .i64 t874, .slice Ao77 t875.length co77] 37 (0, 0)) (by (with_reducible repeat (first | refine blk_drewN ?_ _ | refine blk_drew ?_ | refine blk_alloc ?_ _)); exact BK879.out) hb); have n6_ := Aside0.mk (below_step (by repeat (first | (with_reducible first | exact HB.out | apply below_alloc | apply pw_below_drewN | apply below_drew1 | refine below_set ?_ GE850.out | refine below_set ?_ GE859.out | refine below_set ?_ GE879.out) | exact HB.out)) hb); clear HO_851001; clear HO_860001; clear HO_880001; clear BK850; clear BK859; clear BK879; clear HB; have HO_851001 := n0_; have HO_860001 := n1_; have HO_880001 := n2_; have BK850 := n3_; have BK859 := n4_; have BK879 := n5_; have HB := n6_; clear n0_ n1_ n2_ n3_ n4_ n5_ n6_; (try clear hb); (try clear hb2); (try clear hk); (try clear hi)))
                                go_ret
                                exact ⟨by first | rfl | (simp [errW_none, errW_some] <;> rfl) | (simp [*, errW_none, errW_some] <;> rfl), by repeat (first | (with_reducible first | exact HB.out | apply below_alloc | apply pw_below_drewN | apply below_drew1 | refine below_set ?_ GE850.out | refine below_set ?_ GE859.out | refine below_set ?_ GE879.out) | exact HB.out)⟩
                    · rw [if_neg c61] at H
                      have c61b0 : (t870 == t868) = false := beq_eq_false_iff_ne.mpr c61
                      have c61b1 : (t870 != t868) = true := bne_iff_ne.mpr c61
                      obtain rfl := Option.some.inj H
                      have hnb108 := NB859_850.out
                      have hnc108 := NB850_859.out
                      have hcz109_0 : wc.cell? ⟨gb859, 0, none⟩ = some (.int .i64 t854) := (blk_cell BK859.out 0).trans rfl
                      have hcz109_1 : wc.cell? ⟨gb859, 1, none⟩ = some (.slice Ao21 t855.length co21) := (blk_cell BK859.out 1).trans rfl
                      have hfz109_0 := blk_frozen BK859.out 0
                      have hfz109_1 := blk_frozen BK859.out 1
                      go_wp2_with (first | ((with_reducible refine gate_callee (f := 37) rfl ?_); refine goesL_ (some 65) rfl rfl Try.func37 (by kernel_rfl) rfl #[.agg #[.int .i64 t854, .slice Ao21 t855.length co21], .int .i64 1] rfl (by (try simp only [List.map_toArray, List.map_cons, List.map_nil]); first | done | rfl | (simp only [List.length_drop, List.length_take]; rfl)) ?_; (with_reducible refine (laws_markSpace.calls kj36 t854 (fun k_ => some k_ = (.slice Ao21 t855.length co21 : Value).ownBlock) (.slice Ao21 t855.length co21) t855 1 t868 t869 w _ ?side1 ?side2 A53.out).mono ?_); (case side1 => repeat (first | (with_reducible first | exact HB.out | apply below_alloc | apply pw_below_drewN | apply below_drew1 | refine below_set ?_ GE850.out | refine below_set ?_ GE859.out) | exact HB.out)); (case side2 => exact Kd.R_tight rfl HO_860001.out); rintro e w110 ⟨rfl, hy0, hb, hkp⟩; refine ⟨_, rfl, ?_⟩; have n0_ := Aside0.mk (Kd.R_mono (ok' := fun k_ => some k_ ≠ (.slice Ao21 t855.length co21 : Value).ownBlock) (Kd.R_keptB (HO_851001.out) hkp (fun k_ hk_ hs_ => (hk_) hs_)) (fun k_ hk_ => hk_.1)); have n1_ := Aside0.mk (Kd.R_reok rfl hy0 (fun k_ e_ => HO_860001.out.1 k_ e_)); have n2_ := Aside0.mk (blk_kept (by (with_reducible repeat (first | refine blk_drewN ?_ _ | refine blk_drew ?_ | refine blk_alloc ?_ _)); exact BK850.out) hkp (fun hs_ => (fun e_ => (Kd.R_ne HO_860001.out BK850.out (by decide)) e_) hs_)); have n3_ := Aside0.mk (blk_kept (by (with_reducible repeat (first | refine blk_drewN ?_ _ | refine blk_drew ?_ | refine blk_alloc ?_ _)); exact BK859.out) hkp (fun hs_ => (fun e_ => (Kd.R_ne HO_860001.out BK859.out (by decide)) e_) hs_)); have n4_ := Aside0.mk (hb); clear HO_851001; clear HO_860001; clear BK850; clear BK859; clear HB; have HO_851001 := n0_; have HO_860001 := n1_; have BK850 := n2_; have BK859 := n3_; have HB := n4_; clear n0_ n1_ n2_ n3_ n4_; (try clear hb); (try clear hkp); (try clear hy0); have hcz111_0 : w110.cell? ⟨gb859, 0, none⟩ = some (.int .i64 t854) := (blk_cell BK859.out 0).trans rfl; have hcz111_1 : w110.cell? ⟨gb859, 1, none⟩ = some (.slice Ao21 t855.length co21) := (blk_cell BK859.out 1).trans rfl; have hfz111_0 := blk_frozen BK859.out 0; have hfz111_1 := blk_frozen BK859.out 1) | ((with_reducible refine gate_callee (f := 45) rfl ?_); refine goesL_ (some 68) rfl rfl Try.func45 (by kernel_rfl) rfl #[.agg #[.int .i64 t854, .slice Ao21 t869.length co21], .int .i64 1] rfl (by (try simp only [List.map_toArray, List.map_cons, List.map_nil]); first | done | (rw [show t869.length = t855.length from (Kd.R_reads' HO_860001.out).1.symm] <;> rfl) | rfl | (simp only [List.length_drop, List.length_take]; rfl)) ?_; (with_reducible refine (laws_heldSpace.calls kj36 t854 _ _ t869 1 t870 _ ?side1 ?side2 A54.out).mono ?_); (case side1 => repeat (first | exact (Kd.R_reads' HO_860001.out).2.2 | (with_reducible refine Kd.C_alloc ?_ _) | (with_reducible refine Kd.C_drewN ?_ _) | (with_reducible refine Kd.C_drew ?_))); (case side2 => rw [show t869.length = t855.length from (Kd.R_reads' HO_860001.out).1.symm]; exact (Kd.R_reads' HO_860001.out).2.1); rintro e w112 ⟨rfl, hb⟩; refine ⟨_, rfl, ?_⟩; have n0_ := Aside0.mk (Kd.R_below (by (with_reducible repeat (first | apply Kd.R_alloc | apply Kd.R_drewN | apply Kd.R_drew)); exact HO_851001.out) hb); have n1_ := Aside0.mk (Kd.R_below (by (with_reducible repeat (first | apply Kd.R_alloc | apply Kd.R_drewN | apply Kd.R_drew)); exact HO_860001.out) hb); have n2_ := Aside0.mk (blk_below (g := gb850) (o := .cells #[.int .i64 t845, .slice Ao14 t846.length co14] 37 (0, 0)) (by (with_reducible repeat (first | refine blk_drewN ?_ _ | refine blk_drew ?_ | refine blk_alloc ?_ _)); exact BK850.out) hb); have n3_ := Aside0.mk (blk_below (g := gb859) (o := .cells #[.int .i64 t854, .slice Ao21 t855.length co21] 37 (0, 0)) (by (with_reducible repeat (first | refine blk_drewN ?_ _ | refine blk_drew ?_ | refine blk_alloc ?_ _)); exact BK859.out) hb); have n4_ := Aside0.mk (below_step (by repeat (first | (with_reducible first | exact HB.out | apply below_alloc | apply pw_below_drewN | apply below_drew1 | refine below_set ?_ GE850.out | refine below_set ?_ GE859.out) | exact HB.out)) hb); clear HO_851001; clear HO_860001; clear BK850; clear BK859; clear HB; have HO_851001 := n0_; have HO_860001 := n1_; have BK850 := n2_; have BK859 := n3_; have HB := n4_; clear n0_ n1_ n2_ n3_ n4_; (try clear hb); (try clear hb2); (try clear hk); (try clear hi)))
                      go_ret
                      exact ⟨by first | rfl | (simp [errW_none, errW_some] <;> rfl) | (simp [*, errW_none, errW_some] <;> rfl), by repeat (first | (with_reducible first | exact HB.out | apply below_alloc | apply pw_below_drewN | apply below_drew1 | refine below_set ?_ GE850.out | refine below_set ?_ GE859.out) | exact HB.out)⟩
          · replace c35 := Bool.eq_false_iff.mpr c35
            subst c35
            have H1 : (some false) = some r := by rw [if_neg (show ¬ (false = true) by decide)] at H; exact H
            clear H
            have H := H1
            clear H1
            obtain rfl := Option.some.inj H
            go_wp2_with (first | ((with_reducible refine gate_callee (f := 49) rfl ?_); refine goesL_ (some 44) rfl rfl Try.func49 (by kernel_rfl) rfl #[.slice A1 l1.length c1] rfl (by (try simp only [List.map_toArray, List.map_cons, List.map_nil]); first | done | rfl | (simp only [List.length_drop, List.length_take]; rfl)) ?_; (with_reducible refine (laws_toIntS.calls kj7 _ _ l1 t861 _ ?side1 ?side2 A33.out).mono ?_); (case side1 => repeat (first | exact (Kd.C_below HR1.out HB.out) | (with_reducible refine Kd.C_alloc ?_ _) | (with_reducible refine Kd.C_drewN ?_ _) | (with_reducible refine Kd.C_drew ?_))); (case side2 => exact HC1.out); rintro e w113 ⟨v862, rfl, ho0, hb⟩; refine ⟨_, rfl, ?_⟩; have n0_ := Aside0.mk (Kd.R_elder' (by (with_reducible repeat (first | apply Kd.R_alloc | apply Kd.R_drewN | apply Kd.R_drew)); exact HO_7.out) (Kd.R_base ho0) hb); have n1_ := Aside0.mk (Kd.R_elder' (by (with_reducible repeat (first | apply Kd.R_alloc | apply Kd.R_drewN | apply Kd.R_drew)); exact HO_851001.out) (Kd.R_base ho0) hb); have n2_ := Aside0.mk (Kd.R_elder' (by (with_reducible repeat (first | apply Kd.R_alloc | apply Kd.R_drewN | apply Kd.R_drew)); exact HO_860001.out) (Kd.R_base ho0) hb); have n3_ := Aside0.mk (Kd.R_lower (Kd.R_new' (Kd.R_new' (Kd.R_new' ho0 (Kd.R_lt (by (with_reducible repeat (first | apply Kd.R_alloc | apply Kd.R_drewN | apply Kd.R_drew)); exact HO_7.out))) (Kd.R_lt (by (with_reducible repeat (first | apply Kd.R_alloc | apply Kd.R_drewN | apply Kd.R_drew)); exact HO_851001.out))) (Kd.R_lt (by (with_reducible repeat (first | apply Kd.R_alloc | apply Kd.R_drewN | apply Kd.R_drew)); exact HO_860001.out))) (below_size (by repeat (first | (with_reducible first | exact HB.out | apply below_alloc | apply pw_below_drewN | apply below_drew1 | refine below_set ?_ GE850.out | refine below_set ?_ GE859.out) | exact HB.out)))); have n4_ := Aside0.mk (blk_below (g := gb850) (o := .cells #[.int .i64 t845, .slice Ao14 t846.length co14] 37 (0, 0)) (by (with_reducible repeat (first | refine blk_drewN ?_ _ | refine blk_drew ?_ | refine blk_alloc ?_ _)); exact BK850.out) hb); have n5_ := Aside0.mk (blk_below (g := gb859) (o := .cells #[.int .i64 t854, .slice Ao21 t855.length co21] 37 (0, 0)) (by (with_reducible repeat (first | refine blk_drewN ?_ _ | refine blk_drew ?_ | refine blk_alloc ?_ _)); exact BK859.out) hb); have n6_ := Aside0.mk (below_step (by repeat (first | (with_reducible first | exact HB.out | apply below_alloc | apply pw_below_drewN | apply below_drew1 | refine below_set ?_ GE850.out | refine below_set ?_ GE859.out) | exact HB.out)) hb); clear HO_7; clear HO_851001; clear HO_860001; clear BK850; clear BK859; clear HB; have HO_7 := n0_; have HO_851001 := n1_; have HO_860001 := n2_; have HO863 := n3_; have BK850 := n4_; have BK859 := n5_; have HB := n6_; clear n0_ n1_ n2_ n3_ n4_ n5_ n6_; (try clear hb); (try clear hb2); (try clear hk); (try clear hi); (try clear ho0); obtain ⟨Ao114, co114, eo114⟩ := Kd.R_slice HO863.out; subst eo114) | ((with_reducible refine gate_callee (f := 36) rfl ?_); refine goesL_ (some 45) rfl rfl Try.func36 (by kernel_rfl) rfl #[.slice Ao16 t851.length co16, .slice Ao114 t861.length co114] rfl (by (try simp only [List.map_toArray, List.map_cons, List.map_nil]); first | done | rfl | (simp only [List.length_drop, List.length_take]; rfl)) ?_; (with_reducible refine (laws_eqIntS.calls kj7 _ _ t851 _ _ t861 false _ ?side1 ?side2 ?side3 ?side4 A34.out).mono ?_); (case side1 => repeat (first | exact (Kd.R_reads' HO_7.out).2.2 | (with_reducible refine Kd.C_alloc ?_ _) | (with_reducible refine Kd.C_drewN ?_ _) | (with_reducible refine Kd.C_drew ?_))); (case side2 => exact (Kd.R_reads' HO_7.out).2.1); (case side3 => repeat (first | exact (Kd.R_reads' HO863.out).2.2 | (with_reducible refine Kd.C_alloc ?_ _) | (with_reducible refine Kd.C_drewN ?_ _) | (with_reducible refine Kd.C_drew ?_))); (case side4 => exact (Kd.R_reads' HO863.out).2.1); rintro e w' ⟨rfl, ⟨nd, rfl⟩⟩; refine ⟨_, rfl, ?_⟩))
            go_ret
            exact ⟨by first | rfl | (simp [errW_none, errW_some] <;> rfl) | (simp [*, errW_none, errW_some] <;> rfl), by repeat (first | (with_reducible first | exact HB.out | apply below_alloc | apply pw_below_drewN | apply below_drew1 | refine below_set ?_ GE850.out | refine below_set ?_ GE859.out) | exact HB.out)⟩

/-- THE ONE PURE STATEMENT of laws_FnExactSpaceWith. -/
def laws_FnExactSpaceWith.Pure : Prop := ∀ (a0 : Int) (l1 : List Int), (Lit.int .i64 a0).wf = true → l1.length ≤ maxLen → (∀ x ∈ l1, (Lit.int .i64 x).wf = true) → ∃ k, laws_FnExactSpaceWith.f k a0 l1 = some true
theorem laws_FnExactSpaceWith.walk (P : laws_FnExactSpaceWith.Pure) (a0 : Int) (A1 : Option Addr) (c1 : Nat) (l1 : List Int) (w : World) (w0 : (Lit.int .i64 a0).wf = true) (hr1 : Kd.C (Kd.int .i64) w A1 l1.length l1) (hc1 : l1.length ≤ c1) (hm1 : l1.length ≤ maxLen) (hw1 : ∀ x ∈ l1, (Lit.int .i64 x).wf = true) :
    Calls Try.prog 12 #[.int .i64 a0, .slice A1 l1.length c1] w fun e w' => e = .returned (.bool true) ∧ Below w.heap.size w w' := by
  obtain ⟨k, h⟩ := P a0 l1 w0 hm1 hw1
  refine (laws_FnExactSpaceWith.calls k a0 A1 c1 l1 true w hr1 hc1 h).mono ?_
  rintro e w' ⟨rfl, hd⟩
  exact ⟨rfl, hd⟩

end Go.Proofs.Ythpbmecinoninaa.P
