/- Functions of the program as plain Lean functions, each with a proof that the Go code computes it; written by a program of this session. Conditions: as each theorem states. -/
import Derived.Test.YtnpfkbfmipnofaaCFnExactChordalSpaceP4
namespace Go.Proofs.Ytnpfkbfmipnofaa.P
open Go.RowKit Go.Proofs.YtnpfkbfmipnofaaW.PrintWords Go.Proofs.YtnpfkbfmipnofaaW.PrintLast Go.Proofs.YtnpfkbfmipnofaaW.PrintMore
attribute [local go_sem] max2_int min2_int max_two min_two max_three min_three max_four min_four   -- for this text's walks alone
set_option linter.unusedVariables false
set_option linter.unusedSimpArgs false

/-! ### laws_FnExactChordalSpace: function 10 -/
mutual
def laws_FnExactChordalSpace.j0 : Nat → Bool → Bool → Bool → List Int → Int → List Int → List Int → Int → List Int → Option (Bool)
  | 0, _, _, _, _, _, _, _, _, _ => none
  | k + 1, x5, x8, x40, x881000, x891000, x891001, x895000, x901000, x901001 => if x40 = true then (some false) else ((laws_toNet.f k x881000).bind fun t902 => ((laws_eqNet.f k x895000 t902).bind fun t905 => (if t905 = true then ((laws_markNet.f k x895000 1).bind fun bt906 => (if bt906.1 < 0 then (laws_FnExactChordalSpace.j1 k x5 true x881000 x891000 x891001 x901000 x901001) else ((laws_eqSpace.f k x901000 x901001 x891000 x891001).bind fun t908 => (if t908 = true then (laws_FnExactChordalSpace.j1 k x5 (x8 != x5) x881000 x891000 x891001 x901000 x901001) else (laws_FnExactChordalSpace.j1 k x5 true x881000 x891000 x891001 x901000 x901001))))) else (some false))))
def laws_FnExactChordalSpace.j1 : Nat → Bool → Bool → List Int → Int → List Int → Int → List Int → Option (Bool)
  | 0, _, _, _, _, _, _, _ => none
  | k + 1, x5, x61, x881000, x891000, x891001, x901000, x901001 => if x61 = true then (some false) else ((laws_markSpace.f k x901000 x901001 1).bind fun bt909 => ((laws_heldSpace.f k x901000 bt909.2 1).bind fun t911 => (if t911 < 0 then (some false) else (if t911 = bt909.1 then ((laws_toNet.f k x881000).bind fun t912 => ((impl_ChordalSpace.f k t912).bind fun bt915 => ((laws_eqSpace.f k bt915.1 bt915.2.1 x891000 x891001).bind fun t921 => (if t921 = true then (laws_FnExactChordalSpace.j2 k bt909.1 (bt915.2.2 != x5) x901000 bt909.2) else (laws_FnExactChordalSpace.j2 k bt909.1 true x901000 bt909.2))))) else (some false)))))
def laws_FnExactChordalSpace.j2 : Nat → Int → Bool → Int → List Int → Option (Bool)
  | 0, _, _, _, _ => none
  | k + 1, x10, x87, x901000, x901001 => if x87 = true then (some false) else ((laws_heldSpace.f k x901000 x901001 1).bind fun t922 => (if t922 < 0 then (some false) else (if t922 = x10 then (some true) else (some false))))
end
def laws_FnExactChordalSpace.f (k : Nat) (l0_0 : List Int) : Option (Bool) := (laws_szNet.f l0_0 1048576).bind fun t881 => (if t881 < 0 then (some true) else ((laws_toNet.f k l0_0).bind fun t882 => ((spec_ChordalSpace.f k t882).bind fun bt885 => ((laws_toNet.f k l0_0).bind fun t891 => ((impl_ChordalSpace.f k t891).bind fun bt895 => ((laws_eqSpace.f k bt895.1 bt895.2.1 bt885.1 bt885.2.1).bind fun t901 => (if t901 = true then (laws_FnExactChordalSpace.j0 k bt885.2.2 bt895.2.2 (bt895.2.2 != bt885.2.2) l0_0 bt885.1 bt885.2.1 t891 bt895.1 bt895.2.1) else (laws_FnExactChordalSpace.j0 k bt885.2.2 bt895.2.2 true l0_0 bt885.1 bt885.2.1 t891 bt895.1 bt895.2.1))))))))
theorem laws_FnExactChordalSpace.mono_l : ∀ k, (∀ y0 y1 y2 y3 y4 y5 y6 y7 y8, LeO (laws_FnExactChordalSpace.j0 k y0 y1 y2 y3 y4 y5 y6 y7 y8) (laws_FnExactChordalSpace.j0 (k + 1) y0 y1 y2 y3 y4 y5 y6 y7 y8)) ∧ (∀ y0 y1 y2 y3 y4 y5 y6, LeO (laws_FnExactChordalSpace.j1 k y0 y1 y2 y3 y4 y5 y6) (laws_FnExactChordalSpace.j1 (k + 1) y0 y1 y2 y3 y4 y5 y6)) ∧ (∀ y0 y1 y2 y3, LeO (laws_FnExactChordalSpace.j2 k y0 y1 y2 y3) (laws_FnExactChordalSpace.j2 (k + 1) y0 y1 y2 y3))
  | 0 => ⟨fun _ _ _ _ _ _ _ _ _ r h => by simp [laws_FnExactChordalSpace.j0] at h, fun _ _ _ _ _ _ _ r h => by simp [laws_FnExactChordalSpace.j1] at h, fun _ _ _ _ r h => by simp [laws_FnExactChordalSpace.j2] at h⟩
  | k + 1 => by
    obtain ⟨ih0, ih1, ih2⟩ := laws_FnExactChordalSpace.mono_l k
    refine ⟨?_, ?_, ?_⟩
    · intro y0 y1 y2 y3 y4 y5 y6 y7 y8
      unfold laws_FnExactChordalSpace.j0
      repeat' first
      | (with_reducible exact ih0 _ _ _ _ _ _ _ _ _)
      | (with_reducible exact ih1 _ _ _ _ _ _ _)
      | (with_reducible exact ih2 _ _ _ _)
      | (with_reducible exact impl_ChordalSpace.mono _ _)
      | (with_reducible exact laws_eqNet.mono _ _ _)
      | (with_reducible exact laws_eqSpace.mono _ _ _ _ _)
      | (with_reducible exact laws_heldSpace.mono _ _ _ _)
      | (with_reducible exact laws_markNet.mono _ _ _)
      | (with_reducible exact laws_markSpace.mono _ _ _ _)
      | (with_reducible exact laws_toNet.mono _ _)
      | (with_reducible exact spec_ChordalSpace.mono _ _)
      | (with_reducible exact LeO.refl _)
      | (with_reducible exact LeO.none _)
      | (with_reducible refine LeO.ite ?_ ?_)
      | (with_reducible refine LeO.bind ?_ (fun _ => ?_))
      | exact ih0 _ _ _ _ _ _ _ _ _
      | exact ih1 _ _ _ _ _ _ _
      | exact ih2 _ _ _ _
      | exact impl_ChordalSpace.mono _ _
      | exact laws_eqNet.mono _ _ _
      | exact laws_eqSpace.mono _ _ _ _ _
      | exact laws_heldSpace.mono _ _ _ _
      | exact laws_markNet.mono _ _ _
      | exact laws_markSpace.mono _ _ _ _
      | exact laws_toNet.mono _ _
      | exact spec_ChordalSpace.mono _ _
      | exact LeO.none _
      | refine LeO.ite ?_ ?_
      | refine LeO.bind ?_ (fun _ => ?_)
    · intro y0 y1 y2 y3 y4 y5 y6
      unfold laws_FnExactChordalSpace.j1
      repeat' first
      | (with_reducible exact ih0 _ _ _ _ _ _ _ _ _)
      | (with_reducible exact ih1 _ _ _ _ _ _ _)
      | (with_reducible exact ih2 _ _ _ _)
      | (with_reducible exact impl_ChordalSpace.mono _ _)
      | (with_reducible exact laws_eqNet.mono _ _ _)
      | (with_reducible exact laws_eqSpace.mono _ _ _ _ _)
      | (with_reducible exact laws_heldSpace.mono _ _ _ _)
      | (with_reducible exact laws_markNet.mono _ _ _)
      | (with_reducible exact laws_markSpace.mono _ _ _ _)
      | (with_reducible exact laws_toNet.mono _ _)
      | (with_reducible exact spec_ChordalSpace.mono _ _)
      | (with_reducible exact LeO.refl _)
      | (with_reducible exact LeO.none _)
      | (with_reducible refine LeO.ite ?_ ?_)
      | (with_reducible refine LeO.bind ?_ (fun _ => ?_))
      | exact ih0 _ _ _ _ _ _ _ _ _
      | exact ih1 _ _ _ _ _ _ _
      | exact ih2 _ _ _ _
      | exact impl_ChordalSpace.mono _ _
      | exact laws_eqNet.mono _ _ _
      | exact laws_eqSpace.mono _ _ _ _ _
      | exact laws_heldSpace.mono _ _ _ _
      | exact laws_markNet.mono _ _ _
      | exact laws_markSpace.mono _ _ _ _
      | exact laws_toNet.mono _ _
      | exact spec_ChordalSpace.mono _ _
      | exact LeO.none _
      | refine LeO.ite ?_ ?_
      | refine LeO.bind ?_ (fun _ => ?_)
    · intro y0 y1 y2 y3
      unfold laws_FnExactChordalSpace.j2
      repeat' first
      | (with_reducible exact ih0 _ _ _ _ _ _ _ _ _)
      | (with_reducible exact ih1 _ _ _ _ _ _ _)
      | (with_reducible exact ih2 _ _ _ _)
      | (with_reducible exact impl_ChordalSpace.mono _ _)
      | (with_reducible exact laws_eqNet.mono _ _ _)
      | (with_reducible exact laws_eqSpace.mono _ _ _ _ _)
      | (with_reducible exact laws_heldSpace.mono _ _ _ _)
      | (with_reducible exact laws_markNet.mono _ _ _)
      | (with_reducible exact laws_markSpace.mono _ _ _ _)
      | (with_reducible exact laws_toNet.mono _ _)
      | (with_reducible exact spec_ChordalSpace.mono _ _)
      | (with_reducible exact LeO.refl _)
      | (with_reducible exact LeO.none _)
      | (with_reducible refine LeO.ite ?_ ?_)
      | (with_reducible refine LeO.bind ?_ (fun _ => ?_))
      | exact ih0 _ _ _ _ _ _ _ _ _
      | exact ih1 _ _ _ _ _ _ _
      | exact ih2 _ _ _ _
      | exact impl_ChordalSpace.mono _ _
      | exact laws_eqNet.mono _ _ _
      | exact laws_eqSpace.mono _ _ _ _ _
      | exact laws_heldSpace.mono _ _ _ _
      | exact laws_markNet.mono _ _ _
      | exact laws_markSpace.mono _ _ _ _
      | exact laws_toNet.mono _ _
      | exact spec_ChordalSpace.mono _ _
      | exact LeO.none _
      | refine LeO.ite ?_ ?_
      | refine LeO.bind ?_ (fun _ => ?_)
theorem laws_FnExactChordalSpace.mono : ∀ a0 k, LeO (laws_FnExactChordalSpace.f k a0) (laws_FnExactChordalSpace.f (k + 1) a0) := by
  intro a0 k
  obtain ⟨ih0, ih1, ih2⟩ := laws_FnExactChordalSpace.mono_l k
  unfold laws_FnExactChordalSpace.f
  repeat' first
      | (with_reducible exact ih0 _ _ _ _ _ _ _ _ _)
      | (with_reducible exact ih1 _ _ _ _ _ _ _)
      | (with_reducible exact ih2 _ _ _ _)
      | (with_reducible exact impl_ChordalSpace.mono _ _)
      | (with_reducible exact laws_eqNet.mono _ _ _)
      | (with_reducible exact laws_eqSpace.mono _ _ _ _ _)
      | (with_reducible exact laws_heldSpace.mono _ _ _ _)
      | (with_reducible exact laws_markNet.mono _ _ _)
      | (with_reducible exact laws_markSpace.mono _ _ _ _)
      | (with_reducible exact laws_toNet.mono _ _)
      | (with_reducible exact spec_ChordalSpace.mono _ _)
      | (with_reducible exact LeO.refl _)
      | (with_reducible exact LeO.none _)
      | (with_reducible refine LeO.ite ?_ ?_)
      | (with_reducible refine LeO.bind ?_ (fun _ => ?_))
      | exact ih0 _ _ _ _ _ _ _ _ _
      | exact ih1 _ _ _ _ _ _ _
      | exact ih2 _ _ _ _
      | exact impl_ChordalSpace.mono _ _
      | exact laws_eqNet.mono _ _ _
      | exact laws_eqSpace.mono _ _ _ _ _
      | exact laws_heldSpace.mono _ _ _ _
      | exact laws_markNet.mono _ _ _
      | exact laws_markSpace.mono _ _ _ _
      | exact laws_toNet.mono _ _
      | exact spec_ChordalSpace.mono _ _
      | exact LeO.none _
      | refine LeO.ite ?_ ?_
      | refine LeO.bind ?_ (fun _ => ?_)
set_option maxHeartbeats 8000000 in
set_option maxRecDepth 100000 in
theorem laws_FnExactChordalSpace.calls (k : Nat) (A0_0 : Option Addr) (c0_0 : Nat) (l0_0 : List Int) (r : Bool) (w : World) (hr0_0 : Kd.C (Kd.int .i64) w A0_0 l0_0.length l0_0) (hc0_0 : l0_0.length ≤ c0_0) (h : laws_FnExactChordalSpace.f k l0_0 = some r) :
    Calls Try.prog 10 #[.agg #[.slice A0_0 l0_0.length c0_0]] w fun e w' => e = .returned (.bool r) ∧ Below w.heap.size w w' := by
  have hu55 := Try.underlying55
  have hu28 := Try.underlying28
  have hu58 := Try.underlying58
  have HR0_0 := Aside0.mk hr0_0
  have HC0_0 := Aside0.mk hc0_0
  clear hr0_0 hc0_0
  have HB := Aside0.mk (Below.refl w.heap.size w)
  have H : ((laws_szNet.f l0_0 1048576).bind fun t881 => (if t881 < 0 then (some true) else ((laws_toNet.f k l0_0).bind fun t882 => ((spec_ChordalSpace.f k t882).bind fun bt885 => ((laws_toNet.f k l0_0).bind fun t891 => ((impl_ChordalSpace.f k t891).bind fun bt895 => ((laws_eqSpace.f k bt895.1 bt895.2.1 bt885.1 bt885.2.1).bind fun t901 => (if t901 = true then (laws_FnExactChordalSpace.j0 k bt885.2.2 bt895.2.2 (bt895.2.2 != bt885.2.2) l0_0 bt885.1 bt885.2.1 t891 bt895.1 bt895.2.1) else (laws_FnExactChordalSpace.j0 k bt885.2.2 bt895.2.2 true l0_0 bt885.1 bt885.2.1 t891 bt895.1 bt895.2.1))))))))) = some r := h
  clear h
  replace H := Option.bind_eq_some_iff.mp H
  obtain ⟨t881, A20, H⟩ := H
  replace H : (if t881 < 0 then (some true) else ((laws_toNet.f k l0_0).bind fun t882 => ((spec_ChordalSpace.f k t882).bind fun bt885 => ((laws_toNet.f k l0_0).bind fun t891 => ((impl_ChordalSpace.f k t891).bind fun bt895 => ((laws_eqSpace.f k bt895.1 bt895.2.1 bt885.1 bt885.2.1).bind fun t901 => (if t901 = true then (laws_FnExactChordalSpace.j0 k bt885.2.2 bt895.2.2 (bt895.2.2 != bt885.2.2) l0_0 bt885.1 bt885.2.1 t891 bt895.1 bt895.2.1) else (laws_FnExactChordalSpace.j0 k bt885.2.2 bt895.2.2 true l0_0 bt885.1 bt885.2.1 t891 bt895.1 bt895.2.1)))))))) = some r := H
  have A2 := Aside0.mk A20
  clear A20
  by_cases c3 : t881 < 0
  · rw [if_pos c3] at H
    have c3b0 : decide (t881 < 0) = true := decide_eq_true c3
    clear c3
    obtain rfl := Option.some.inj H
    go_enter Try.func10, Try.ntmps10
    go_wp2_with (first | ((with_reducible refine gate_dst (N := 1) rfl ?_); refine box_event ?hg (N := 1) ?hd (cs := #[.slice A0_0 l0_0.length c0_0]) (t := 55) ?hr ?_; (case hd => rfl); (case hg => rfl); (case hr => first | (go_simp; done) | (go_simp; rfl)); intro gb880 hg w4 hbox hb; have n0_ := Aside0.mk (below_step (by repeat (first | (with_reducible first | exact HB.out | apply below_alloc | apply pw_below_drewN | apply below_drew1) | exact HB.out)) hb); have n1_ := Aside0.mk (hbox); have n2_ := Aside0.mk ((by rw [hg]; exact (below_size (by repeat (first | (with_reducible first | exact HB.out | apply below_alloc | apply pw_below_drewN | apply below_drew1) | exact HB.out))) : w.heap.size ≤ gb880)); have n3_ := Aside0.mk ((by rw [hg]; exact (below_size (by repeat (first | (with_reducible first | exact HB.out | apply below_alloc | apply pw_below_drewN | apply below_drew1) | exact HB.out))) : w.heap.size ≤ gb880)); clear HB; have HB := n0_; have BK880 := n1_; have GW880 := n2_; have GE880 := n3_; clear n0_ n1_ n2_ n3_; clear hb hbox hg; have hcz5_0 : w4.cell? ⟨gb880, 0, none⟩ = some (.slice A0_0 l0_0.length c0_0) := (blk_cell BK880.out 0).trans rfl; have hfz5_0 := blk_frozen BK880.out 0) | ((with_reducible refine gate_callee (f := 43) rfl ?_); refine goesL_ (some 16) rfl rfl Try.func43 (by kernel_rfl) rfl #[.agg #[.slice A0_0 l0_0.length c0_0], .int .i64 1048576] rfl (by (try simp only [List.map_toArray, List.map_cons, List.map_nil]); first | done | rfl | (simp only [List.length_drop, List.length_take]; rfl)) ?_; (with_reducible refine (laws_szNet.calls _ _ l0_0 1048576 t881 _ ?side1 ?side2 A2.out).mono ?_); (case side1 => repeat (first | exact (Kd.C_below HR0_0.out HB.out) | (with_reducible refine Kd.C_alloc ?_ _) | (with_reducible refine Kd.C_drewN ?_ _) | (with_reducible refine Kd.C_drew ?_))); (case side2 => exact HC0_0.out); rintro e w6 ⟨rfl, hb⟩; refine ⟨_, rfl, ?_⟩; have n0_ := Aside0.mk (blk_below (g := gb880) (o := .cells #[.slice A0_0 l0_0.length c0_0] 55 (0, 0)) (by (with_reducible repeat (first | refine blk_drewN ?_ _ | refine blk_drew ?_ | refine blk_alloc ?_ _)); exact BK880.out) hb); have n1_ := Aside0.mk (below_step (by repeat (first | (with_reducible first | exact HB.out | apply below_alloc | apply pw_below_drewN | apply below_drew1 | refine below_set ?_ GE880.out) | exact HB.out)) hb); clear BK880; clear HB; have BK880 := n0_; have HB := n1_; clear n0_ n1_; (try clear hb); (try clear hb2); (try clear hk); (try clear hi)))
    go_ret
    exact ⟨by first | rfl | (simp [errW_none, errW_some] <;> rfl) | (simp [*, errW_none, errW_some] <;> rfl), by repeat (first | (with_reducible first | exact HB.out | apply below_alloc | apply pw_below_drewN | apply below_drew1 | refine below_set ?_ GE880.out) | exact HB.out)⟩
  · rw [if_neg c3] at H
    have c3b0 : decide (t881 < 0) = false := decide_eq_false c3
    clear c3
    replace H := Option.bind_eq_some_iff.mp H
    obtain ⟨t882, A70, H⟩ := H
    replace H : ((spec_ChordalSpace.f k t882).bind fun bt885 => ((laws_toNet.f k l0_0).bind fun t891 => ((impl_ChordalSpace.f k t891).bind fun bt895 => ((laws_eqSpace.f k bt895.1 bt895.2.1 bt885.1 bt885.2.1).bind fun t901 => (if t901 = true then (laws_FnExactChordalSpace.j0 k bt885.2.2 bt895.2.2 (bt895.2.2 != bt885.2.2) l0_0 bt885.1 bt885.2.1 t891 bt895.1 bt895.2.1) else (laws_FnExactChordalSpace.j0 k bt885.2.2 bt895.2.2 true l0_0 bt885.1 bt885.2.1 t891 bt895.1 bt895.2.1)))))) = some r := H
    have A7 := Aside0.mk A70
    clear A70
    replace H := Option.bind_eq_some_iff.mp H
    obtain ⟨⟨t885, t886, t889⟩, A80, H⟩ := H
    replace H : ((laws_toNet.f k l0_0).bind fun t891 => ((impl_ChordalSpace.f k t891).bind fun bt895 => ((laws_eqSpace.f k bt895.1 bt895.2.1 t885 t886).bind fun t901 => (if t901 = true then (laws_FnExactChordalSpace.j0 k t889 bt895.2.2 (bt895.2.2 != t889) l0_0 t885 t886 t891 bt895.1 bt895.2.1) else (laws_FnExactChordalSpace.j0 k t889 bt895.2.2 true l0_0 t885 t886 t891 bt895.1 bt895.2.1))))) = some r := H
    have A8 := Aside0.mk A80
    clear A80
    replace H := Option.bind_eq_some_iff.mp H
    obtain ⟨t891, A90, H⟩ := H
    replace H : ((impl_ChordalSpace.f k t891).bind fun bt895 => ((laws_eqSpace.f k bt895.1 bt895.2.1 t885 t886).bind fun t901 => (if t901 = true then (laws_FnExactChordalSpace.j0 k t889 bt895.2.2 (bt895.2.2 != t889) l0_0 t885 t886 t891 bt895.1 bt895.2.1) else (laws_FnExactChordalSpace.j0 k t889 bt895.2.2 true l0_0 t885 t886 t891 bt895.1 bt895.2.1)))) = some r := H
    have A9 := Aside0.mk A90
    clear A90
    replace H := Option.bind_eq_some_iff.mp H
    obtain ⟨⟨t895, t896, t899⟩, A100, H⟩ := H
    replace H : ((laws_eqSpace.f k t895 t896 t885 t886).bind fun t901 => (if t901 = true then (laws_FnExactChordalSpace.j0 k t889 t899 (t899 != t889) l0_0 t885 t886 t891 t895 t896) else (laws_FnExactChordalSpace.j0 k t889 t899 true l0_0 t885 t886 t891 t895 t896))) = some r := H
    have A10 := Aside0.mk A100
    clear A100
    have HC11 := Aside0.mk H
    clear H
    go_enter Try.func10, Try.ntmps10
    go_upto_region 8 with (first | ((with_reducible refine gate_dst (N := 1) rfl ?_); refine box_event ?hg (N := 1) ?hd (cs := #[.slice A0_0 l0_0.length c0_0]) (t := 55) ?hr ?_; (case hd => rfl); (case hg => rfl); (case hr => first | (go_simp; done) | (go_simp; rfl)); intro gb880 hg w12 hbox hb; have n0_ := Aside0.mk (below_step (by repeat (first | (with_reducible first | exact HB.out | apply below_alloc | apply pw_below_drewN | apply below_drew1) | exact HB.out)) hb); have n1_ := Aside0.mk (hbox); have n2_ := Aside0.mk ((by rw [hg]; exact (below_size (by repeat (first | (with_reducible first | exact HB.out | apply below_alloc | apply pw_below_drewN | apply below_drew1) | exact HB.out))) : w.heap.size ≤ gb880)); have n3_ := Aside0.mk ((by rw [hg]; exact (below_size (by repeat (first | (with_reducible first | exact HB.out | apply below_alloc | apply pw_below_drewN | apply below_drew1) | exact HB.out))) : w.heap.size ≤ gb880)); clear HB; have HB := n0_; have BK880 := n1_; have GW880 := n2_; have GE880 := n3_; clear n0_ n1_ n2_ n3_; clear hb hbox hg; have hcz13_0 : w12.cell? ⟨gb880, 0, none⟩ = some (.slice A0_0 l0_0.length c0_0) := (blk_cell BK880.out 0).trans rfl; have hfz13_0 := blk_frozen BK880.out 0) | ((with_reducible refine gate_callee (f := 43) rfl ?_); refine goesL_ (some 16) rfl rfl Try.func43 (by kernel_rfl) rfl #[.agg #[.slice A0_0 l0_0.length c0_0], .int .i64 1048576] rfl (by (try simp only [List.map_toArray, List.map_cons, List.map_nil]); first | done | rfl | (simp only [List.length_drop, List.length_take]; rfl)) ?_; (with_reducible refine (laws_szNet.calls _ _ l0_0 1048576 t881 _ ?side1 ?side2 A2.out).mono ?_); (case side1 => repeat (first | exact (Kd.C_below HR0_0.out HB.out) | (with_reducible refine Kd.C_alloc ?_ _) | (with_reducible refine Kd.C_drewN ?_ _) | (with_reducible refine Kd.C_drew ?_))); (case side2 => exact HC0_0.out); rintro e w14 ⟨rfl, hb⟩; refine ⟨_, rfl, ?_⟩; have n0_ := Aside0.mk (blk_below (g := gb880) (o := .cells #[.slice A0_0 l0_0.length c0_0] 55 (0, 0)) (by (with_reducible repeat (first | refine blk_drewN ?_ _ | refine blk_drew ?_ | refine blk_alloc ?_ _)); exact BK880.out) hb); have n1_ := Aside0.mk (below_step (by repeat (first | (with_reducible first | exact HB.out | apply below_alloc | apply pw_below_drewN | apply below_drew1 | refine below_set ?_ GE880.out) | exact HB.out)) hb); clear BK880; clear HB; have BK880 := n0_; have HB := n1_; clear n0_ n1_; (try clear hb); (try clear hb2); (try clear hk); (try clear hi); have hcz15_0 : w14.cell? ⟨gb880, 0, none⟩ = some (.slice A0_0 l0_0.length c0_0) := (blk_cell BK880.out 0).trans rfl; have hfz15_0 := blk_frozen BK880.out 0) | ((with_reducible refine gate_callee (f := 45) rfl ?_); refine goesL_ (some 21) rfl rfl Try.func45 (by kernel_rfl) rfl #[.agg #[.slice A0_0 l0_0.length c0_0]] rfl (by (try simp only [List.map_toArray, List.map_cons, List.map_nil]); first | done | rfl | (simp only [List.length_drop, List.length_take]; rfl)) ?_; (with_reducible refine (laws_toNet.calls k _ _ l0_0 t882 _ ?side1 ?side2 A7.out).mono ?_); (case side1 => repeat (first | exact (Kd.C_below HR0_0.out HB.out) | (with_reducible refine Kd.C_alloc ?_ _) | (with_reducible refine Kd.C_drewN ?_ _) | (with_reducible refine Kd.C_drew ?_))); (case side2 => exact HC0_0.out); rintro e w16 ⟨v883, rfl, ho0, hb⟩; refine ⟨_, rfl, ?_⟩; have n0_ := Aside0.mk (Kd.R_lower ho0 (below_size (by repeat (first | (with_reducible first | exact HB.out | apply below_alloc | apply pw_below_drewN | apply below_drew1 | refine below_set ?_ GE880.out) | exact HB.out)))); have n1_ := Aside0.mk (blk_below (g := gb880) (o := .cells #[.slice A0_0 l0_0.length c0_0] 55 (0, 0)) (by (with_reducible repeat (first | refine blk_drewN ?_ _ | refine blk_drew ?_ | refine blk_alloc ?_ _)); exact BK880.out) hb); have n2_ := Aside0.mk (below_step (by repeat (first | (with_reducible first | exact HB.out | apply below_alloc | apply pw_below_drewN | apply below_drew1 | refine below_set ?_ GE880.out) | exact HB.out)) hb); clear BK880; clear HB; have HO884 := n0_; have BK880 := n1_; have HB := n2_; clear n0_ n1_ n2_; (try clear hb); (try clear hb2); (try clear hk); (try clear hi); (try clear ho0); obtain ⟨Ao17, co17, eo17⟩ := Kd.R_slice HO884.out; subst eo17) | ((with_reducible refine gate_callee (f := 44) rfl ?_); refine goesL_ (some 22) rfl rfl Try.func44 (by kernel_rfl) rfl #[.agg #[.slice Ao17 t882.length co17]] rfl (by (try simp only [List.map_toArray, List.map_cons, List.map_nil]); first | done | rfl | (simp only [List.length_drop, List.length_take]; rfl)) ?_; (with_reducible refine (spec_ChordalSpace.calls k _ _ t882 t885 t886 t889 _ ?side1 ?side2 A8.out).mono ?_); (case side1 => repeat (first | exact (Kd.R_reads' HO884.out).2.2 | (with_reducible refine Kd.C_alloc ?_ _) | (with_reducible refine Kd.C_drewN ?_ _) | (with_reducible refine Kd.C_drew ?_))); (case side2 => exact (Kd.R_reads' HO884.out).2.1); rintro e w18 ⟨v887, rfl, ho0, hb⟩; refine ⟨_, rfl, ?_⟩; have n0_ := Aside0.mk (Kd.R_elder' (by (with_reducible repeat (first | apply Kd.R_alloc | apply Kd.R_drewN | apply Kd.R_drew)); exact HO884.out) (Kd.R_base ho0) hb); have n1_ := Aside0.mk (Kd.R_lower (Kd.R_new' ho0 (Kd.R_lt (by (with_reducible repeat (first | apply Kd.R_alloc | apply Kd.R_drewN | apply Kd.R_drew)); exact HO884.out))) (below_size (by repeat (first | (with_reducible first | exact HB.out | apply below_alloc | apply pw_below_drewN | apply below_drew1 | refine below_set ?_ GE880.out) | exact HB.out)))); have n2_ := Aside0.mk (blk_below (g := gb880) (o := .cells #[.slice A0_0 l0_0.length c0_0] 55 (0, 0)) (by (with_reducible repeat (first | refine blk_drewN ?_ _ | refine blk_drew ?_ | refine blk_alloc ?_ _)); exact BK880.out) hb); have n3_ := Aside0.mk (below_step (by repeat (first | (with_reducible first | exact HB.out | apply below_alloc | apply pw_below_drewN | apply below_drew1 | refine below_set ?_ GE880.out) | exact HB.out)) hb); clear HO884; clear BK880; clear HB; have HO884 := n0_; have HO888 := n1_; have BK880 := n2_; have HB := n3_; clear n0_ n1_ n2_ n3_; (try clear hb); (try clear hb2); (try clear hk); (try clear hi); (try clear ho0)) | ((with_reducible refine gate_dst (N := 4) rfl ?_); refine box_event ?hg (N := 4) ?hd (cs := #[.int .i64 0, .slice none 0 0]) (t := 28) ?hr ?_; (case hd => rfl); (case hg => rfl); (case hr => first | (go_simp; done) | (go_simp; rfl)); intro gb890 hg w19 hbox hb; have n0_ := Aside0.mk (Kd.R_below (by (with_reducible repeat (first | apply Kd.R_alloc | apply Kd.R_drewN | apply Kd.R_drew)); exact HO884.out) hb); have n1_ := Aside0.mk (Kd.R_below (by (with_reducible repeat (first | apply Kd.R_alloc | apply Kd.R_drewN | apply Kd.R_drew)); exact HO888.out) hb); have n2_ := Aside0.mk (blk_below (g := gb880) (o := .cells #[.slice A0_0 l0_0.length c0_0] 55 (0, 0)) (by (with_reducible repeat (first | refine blk_drewN ?_ _ | refine blk_drew ?_ | refine blk_alloc ?_ _)); exact BK880.out) hb); have n3_ := Aside0.mk (below_step (by repeat (first | (with_reducible first | exact HB.out | apply below_alloc | apply pw_below_drewN | apply below_drew1 | refine below_set ?_ GE880.out) | exact HB.out)) hb); have n4_ := Aside0.mk (hbox); have n5_ := Aside0.mk ((by rw [hg]; exact (below_size (by repeat (first | (with_reducible first | exact HB.out | apply below_alloc | apply pw_below_drewN | apply below_drew1 | refine below_set ?_ GE880.out) | exact HB.out))) : w.heap.size ≤ gb890)); have n6_ := Aside0.mk ((by rw [hg]; exact (below_size (by repeat (first | (with_reducible first | exact HB.out | apply below_alloc | apply pw_below_drewN | apply below_drew1 | refine below_set ?_ GE880.out) | exact HB.out))) : w.heap.size ≤ gb890)); have n7_ := Aside0.mk ((by rw [hg]; exact Nat.ne_of_lt (blk_lt (g := gb880) (o := .cells #[.slice A0_0 l0_0.length c0_0] 55 (0, 0)) (by (with_reducible repeat (first | refine blk_drewN ?_ _ | refine blk_drew ?_ | refine blk_alloc ?_ _)); exact BK880.out)) : gb880 ≠ gb890)); have n8_ := Aside0.mk ((by rw [hg]; exact Nat.ne_of_gt (blk_lt (g := gb880) (o := .cells #[.slice A0_0 l0_0.length c0_0] 55 (0, 0)) (by (with_reducible repeat (first | refine blk_drewN ?_ _ | refine blk_drew ?_ | refine blk_alloc ?_ _)); exact BK880.out)) : gb890 ≠ gb880)); clear HO884; clear HO888; clear BK880; clear HB; have HO884 := n0_; have HO888 := n1_; have BK880 := n2_; have HB := n3_; have BK890 := n4_; have GW890 := n5_; have GE890 := n6_; have NB880_890 := n7_; have NB890_880 := n8_; clear n0_ n1_ n2_ n3_ n4_ n5_ n6_ n7_ n8_; clear hb hbox hg; have hnb20 := NB890_880.out; have hnc20 := NB880_890.out; have hcz21_0 : w19.cell? ⟨gb890, 0, none⟩ = some (.int .i64 0) := (blk_cell BK890.out 0).trans rfl; have hcz21_1 : w19.cell? ⟨gb890, 1, none⟩ = some (.slice none 0 0) := (blk_cell BK890.out 1).trans rfl; have hfz21_0 := blk_frozen BK890.out 0; have hfz21_1 := blk_frozen BK890.out 1; obtain ⟨Ao22, co22, eo22⟩ := Kd.R_slice HO888.out; subst eo22; have hcz23_0 : w19.cell? ⟨gb880, 0, none⟩ = some (.slice A0_0 l0_0.length c0_0) := (blk_cell BK880.out 0).trans rfl; have hfz23_0 := blk_frozen BK880.out 0) | ((with_reducible refine gate_callee (f := 45) rfl ?_); refine goesL_ (some 26) rfl rfl Try.func45 (by kernel_rfl) rfl #[.agg #[.slice A0_0 l0_0.length c0_0]] rfl (by (try simp only [List.map_toArray, List.map_cons, List.map_nil]); first | done | rfl | (simp only [List.length_drop, List.length_take]; rfl)) ?_; (with_reducible refine (laws_toNet.calls k _ _ l0_0 t891 _ ?side1 ?side2 A9.out).mono ?_); (case side1 => exact Kd.C_below HR0_0.out (by repeat (first | (with_reducible first | exact HB.out | apply below_alloc | apply pw_below_drewN | apply below_drew1 | refine below_set ?_ GE880.out | refine below_set ?_ GE890.out) | exact HB.out))); (case side2 => exact HC0_0.out); rintro e w24 ⟨v892, rfl, ho0, hb⟩; refine ⟨_, rfl, ?_⟩; have n0_ := Aside0.mk (Kd.R_elder' (by (with_reducible repeat (first | apply Kd.R_alloc | apply Kd.R_drewN | apply Kd.R_drew)); exact (Kd.R_mono (Kd.R_far (p := ⟨gb890, 1, none⟩) (Kd.R_far (p := ⟨gb890, 0, none⟩) (Kd.R_types HO884.out BK890.out (by decide)) (fun _ hk => hk.2) (.int .i64 t885)) (fun _ hk => hk.2) (.slice Ao22 t886.length co22)) (fun _ h_ => h_.1))) (Kd.R_base ho0) hb); have n1_ := Aside0.mk (Kd.R_elder' (by (with_reducible repeat (first | apply Kd.R_alloc | apply Kd.R_drewN | apply Kd.R_drew)); exact (Kd.R_mono (Kd.R_far (p := ⟨gb890, 1, none⟩) (Kd.R_far (p := ⟨gb890, 0, none⟩) (Kd.R_types HO888.out BK890.out (by decide)) (fun _ hk => hk.2) (.int .i64 t885)) (fun _ hk => hk.2) (.slice Ao22 t886.length co22)) (fun _ h_ => h_.1))) (Kd.R_base ho0) hb); have n2_ := Aside0.mk (Kd.R_lower (Kd.R_new' (Kd.R_new' ho0 (Kd.R_lt (by (with_reducible repeat (first | apply Kd.R_alloc | apply Kd.R_drewN | apply Kd.R_drew)); exact (Kd.R_mono (Kd.R_far (p := ⟨gb890, 1, none⟩) (Kd.R_far (p := ⟨gb890, 0, none⟩) (Kd.R_types HO884.out BK890.out (by decide)) (fun _ hk => hk.2) (.int .i64 t885)) (fun _ hk => hk.2) (.slice Ao22 t886.length co22)) (fun _ h_ => h_.1))))) (Kd.R_lt (by (with_reducible repeat (first | apply Kd.R_alloc | apply Kd.R_drewN | apply Kd.R_drew)); exact (Kd.R_mono (Kd.R_far (p := ⟨gb890, 1, none⟩) (Kd.R_far (p := ⟨gb890, 0, none⟩) (Kd.R_types HO888.out BK890.out (by decide)) (fun _ hk => hk.2) (.int .i64 t885)) (fun _ hk => hk.2) (.slice Ao22 t886.length co22)) (fun _ h_ => h_.1))))) (below_size (by repeat (first | (with_reducible first | exact HB.out | apply below_alloc | apply pw_below_drewN | apply below_drew1 | refine below_set ?_ GE880.out | refine below_set ?_ GE890.out) | exact HB.out)))); have n3_ := Aside0.mk (blk_below (g := gb880) (o := .cells #[.slice A0_0 l0_0.length c0_0] 55 (0, 0)) (by (with_reducible repeat (first | refine blk_drewN ?_ _ | refine blk_drew ?_ | refine blk_alloc ?_ _)); refine blk_far ?_ NB880_890.out _; (with_reducible repeat (first | refine blk_drewN ?_ _ | refine blk_drew ?_ | refine blk_alloc ?_ _)); refine blk_far ?_ NB880_890.out _; (with_reducible repeat (first | refine blk_drewN ?_ _ | refine blk_drew ?_ | refine blk_alloc ?_ _)); exact BK880.out) hb); have n4_ := Aside0.mk (blk_below (g := gb890) (o := .cells #[.int .i64 t885, .slice Ao22 t886.length co22] 28 (0, 0)) (by (with_reducible repeat (first | refine blk_drewN ?_ _ | refine blk_drew ?_ | refine blk_alloc ?_ _)); refine blk_put (cs := #[.int .i64 t885, .slice none 0 0]) ?_ 1 _ rfl; (with_reducible repeat (first | refine blk_drewN ?_ _ | refine blk_drew ?_ | refine blk_alloc ?_ _)); refine blk_put (cs := #[.int .i64 0, .slice none 0 0]) ?_ 0 _ rfl; (with_reducible repeat (first | refine blk_drewN ?_ _ | refine blk_drew ?_ | refine blk_alloc ?_ _)); exact BK890.out) hb); have n5_ := Aside0.mk (below_step (by repeat (first | (with_reducible first | exact HB.out | apply below_alloc | apply pw_below_drewN | apply below_drew1 | refine below_set ?_ GE880.out | refine below_set ?_ GE890.out) | exact HB.out)) hb); clear HO884; clear HO888; clear BK880; clear BK890; clear HB; have HO884 := n0_; have HO888 := n1_; have HO893 := n2_; have BK880 := n3_; have BK890 := n4_; have HB := n5_; clear n0_ n1_ n2_ n3_ n4_ n5_; (try clear hb); (try clear hb2); (try clear hk); (try clear hi); (try clear ho0)) | ((with_reducible refine gate_dst (N := 6) rfl ?_); refine box_event ?hg (N := 6) ?hd (cs := #[.slice none 0 0]) (t := 58) ?hr ?_; (case hd => rfl); (case hg => rfl); (case hr => first | (go_simp; done) | (go_simp; rfl)); intro gb894 hg w25 hbox hb; have n0_ := Aside0.mk (Kd.R_below (by (with_reducible repeat (first | apply Kd.R_alloc | apply Kd.R_drewN | apply Kd.R_drew)); exact HO884.out) hb); have n1_ := Aside0.mk (Kd.R_below (by (with_reducible repeat (first | apply Kd.R_alloc | apply Kd.R_drewN | apply Kd.R_drew)); exact HO888.out) hb); have n2_ := Aside0.mk (Kd.R_below (by (with_reducible repeat (first | apply Kd.R_alloc | apply Kd.R_drewN | apply Kd.R_drew)); exact HO893.out) hb); have n3_ := Aside0.mk (blk_below (g := gb880) (o := .cells #[.slice A0_0 l0_0.length c0_0] 55 (0, 0)) (by (with_reducible repeat (first | refine blk_drewN ?_ _ | refine blk_drew ?_ | refine blk_alloc ?_ _)); exact BK880.out) hb); have n4_ := Aside0.mk (blk_below (g := gb890) (o := .cells #[.int .i64 t885, .slice Ao22 t886.length co22] 28 (0, 0)) (by (with_reducible repeat (first | refine blk_drewN ?_ _ | refine blk_drew ?_ | refine blk_alloc ?_ _)); exact BK890.out) hb); have n5_ := Aside0.mk (below_step (by repeat (first | (with_reducible first | exact HB.out | apply below_alloc | apply pw_below_drewN | apply below_drew1 | refine below_set ?_ GE880.out | refine below_set ?_ GE890.out) | exact HB.out)) hb); have n6_ := Aside0.mk (hbox); have n7_ := Aside0.mk ((by rw [hg]; exact (below_size (by repeat (first | (with_reducible first | exact HB.out | apply below_alloc | apply pw_below_drewN | apply below_drew1 | refine below_set ?_ GE880.out | refine below_set ?_ GE890.out) | exact HB.out))) : w.heap.size ≤ gb894)); have n8_ := Aside0.mk ((by rw [hg]; exact (below_size (by repeat (first | (with_reducible first | exact HB.out | apply below_alloc | apply pw_below_drewN | apply below_drew1 | refine below_set ?_ GE880.out | refine below_set ?_ GE890.out) | exact HB.out))) : w.heap.size ≤ gb894)); have n9_ := Aside0.mk ((by rw [hg]; exact Nat.ne_of_lt (blk_lt (g := gb880) (o := .cells #[.slice A0_0 l0_0.length c0_0] 55 (0, 0)) (by (with_reducible repeat (first | refine blk_drewN ?_ _ | refine blk_drew ?_ | refine blk_alloc ?_ _)); exact BK880.out)) : gb880 ≠ gb894)); have n10_ := Aside0.mk ((by rw [hg]; exact Nat.ne_of_gt (blk_lt (g := gb880) (o := .cells #[.slice A0_0 l0_0.length c0_0] 55 (0, 0)) (by (with_reducible repeat (first | refine blk_drewN ?_ _ | refine blk_drew ?_ | refine blk_alloc ?_ _)); exact BK880.out)) : gb894 ≠ gb880)); have n11_ := Aside0.mk ((by rw [hg]; exact Nat.ne_of_lt (blk_lt (g := gb890) (o := .cells #[.int .i64 t885, .slice Ao22 t886.length co22] 28 (0, 0)) (by (with_reducible repeat (first | refine blk_drewN ?_ _ | refine blk_drew ?_ | refine blk_alloc ?_ _)); exact BK890.out)) : gb890 ≠ gb894)); have n12_ := Aside0.mk ((by rw [hg]; exact Nat.ne_of_gt (blk_lt (g := gb890) (o := .cells #[.int .i64 t885, .slice Ao22 t886.length co22] 28 (0, 0)) (by (with_reducible repeat (first | refine blk_drewN ?_ _ | refine blk_drew ?_ | refine blk_alloc ?_ _)); exact BK890.out)) : gb894 ≠ gb890)); clear HO884; clear HO888; clear HO893; clear BK880; clear BK890; clear HB; have HO884 := n0_; have HO888 := n1_; have HO893 := n2_; have BK880 := n3_; have BK890 := n4_; have HB := n5_; have BK894 := n6_; have GW894 := n7_; have GE894 := n8_; have NB880_894 := n9_; have NB894_880 := n10_; have NB890_894 := n11_; have NB894_890 := n12_; clear n0_ n1_ n2_ n3_ n4_ n5_ n6_ n7_ n8_ n9_ n10_ n11_ n12_; clear hb hbox hg; obtain ⟨Ao26, co26, eo26⟩ := Kd.R_slice HO893.out; subst eo26; have hnb27 := NB894_880.out; have hnc27 := NB880_894.out; have hnb28 := NB894_890.out; have hnc28 := NB890_894.out; have hcz29_0 : w25.cell? ⟨gb894, 0, none⟩ = some (.slice none 0 0) := (blk_cell BK894.out 0).trans rfl; have hfz29_0 := blk_frozen BK894.out 0) | ((with_reducible refine gate_callee (f := 46) rfl ?_); refine goesL_ (some 29) rfl rfl Try.func46 (by kernel_rfl) rfl #[.agg #[.slice Ao26 t891.length co26]] rfl (by (try simp only [List.map_toArray, List.map_cons, List.map_nil]); first | done | rfl | (simp only [List.length_drop, List.length_take]; rfl)) ?_; (with_reducible refine (impl_ChordalSpace.calls k _ _ t891 t895 t896 t899 _ ?side1 ?side2 A10.out).mono ?_); (case side1 => refine (Kd.R_reads' (e := 3) (base := w.heap.size) (ok := fun k_ => ((True ∧ some k_ ≠ (.slice Ao17 t882.length co17 : Value).ownBlock) ∧ some k_ ≠ (.slice Ao22 t886.length co22 : Value).ownBlock)) (n := t891.length) (c := co26) ?_).2.2; exact (by (with_reducible repeat (first | apply Kd.R_alloc | apply Kd.R_drewN | apply Kd.R_drew)); exact (Kd.R_mono (Kd.R_far (p := ⟨gb894, 0, none⟩) (Kd.R_types HO893.out BK894.out (by decide)) (fun _ hk => hk.2) (.slice Ao26 t891.length co26)) (fun _ h_ => h_.1)))); (case side2 => exact (Kd.R_reads' HO893.out).2.1); rintro e w30 ⟨v897, rfl, ho0, hb⟩; refine ⟨_, rfl, ?_⟩; have n0_ := Aside0.mk (Kd.R_elder' (by (with_reducible repeat (first | apply Kd.R_alloc | apply Kd.R_drewN | apply Kd.R_drew)); exact (Kd.R_mono (Kd.R_far (p := ⟨gb894, 0, none⟩) (Kd.R_types HO884.out BK894.out (by decide)) (fun _ hk => hk.2) (.slice Ao26 t891.length co26)) (fun _ h_ => h_.1))) (Kd.R_base ho0) hb); have n1_ := Aside0.mk (Kd.R_elder' (by (with_reducible repeat (first | apply Kd.R_alloc | apply Kd.R_drewN | apply Kd.R_drew)); exact (Kd.R_mono (Kd.R_far (p := ⟨gb894, 0, none⟩) (Kd.R_types HO888.out BK894.out (by decide)) (fun _ hk => hk.2) (.slice Ao26 t891.length co26)) (fun _ h_ => h_.1))) (Kd.R_base ho0) hb); have n2_ := Aside0.mk (Kd.R_elder' (by (with_reducible repeat (first | apply Kd.R_alloc | apply Kd.R_drewN | apply Kd.R_drew)); exact (Kd.R_mono (Kd.R_far (p := ⟨gb894, 0, none⟩) (Kd.R_types HO893.out BK894.out (by decide)) (fun _ hk => hk.2) (.slice Ao26 t891.length co26)) (fun _ h_ => h_.1))) (Kd.R_base ho0) hb); have n3_ := Aside0.mk (Kd.R_lower (Kd.R_new' (Kd.R_new' (Kd.R_new' ho0 (Kd.R_lt (by (with_reducible repeat (first | apply Kd.R_alloc | apply Kd.R_drewN | apply Kd.R_drew)); exact (Kd.R_mono (Kd.R_far (p := ⟨gb894, 0, none⟩) (Kd.R_types HO884.out BK894.out (by decide)) (fun _ hk => hk.2) (.slice Ao26 t891.length co26)) (fun _ h_ => h_.1))))) (Kd.R_lt (by (with_reducible repeat (first | apply Kd.R_alloc | apply Kd.R_drewN | apply Kd.R_drew)); exact (Kd.R_mono (Kd.R_far (p := ⟨gb894, 0, none⟩) (Kd.R_types HO888.out BK894.out (by decide)) (fun _ hk => hk.2) (.slice Ao26 t891.length co26)) (fun _ h_ => h_.1))))) (Kd.R_lt (by (with_reducible repeat (first | apply Kd.R_alloc | apply Kd.R_drewN | apply Kd.R_drew)); exact (Kd.R_mono (Kd.R_far (p := ⟨gb894, 0, none⟩) (Kd.R_types HO893.out BK894.out (by decide)) (fun _ hk => hk.2) (.slice Ao26 t891.length co26)) (fun _ h_ => h_.1))))) (below_size (by repeat (first | (with_reducible first | exact HB.out | apply below_alloc | apply pw_below_drewN | apply below_drew1 | refine below_set ?_ GE880.out | refine below_set ?_ GE890.out | refine below_set ?_ GE894.out) | exact HB.out)))); have n4_ := Aside0.mk (blk_below (g := gb880) (o := .cells #[.slice A0_0 l0_0.length c0_0] 55 (0, 0)) (by (with_reducible repeat (first | refine blk_drewN ?_ _ | refine blk_drew ?_ | refine blk_alloc ?_ _)); refine blk_far ?_ NB880_894.out _; (with_reducible repeat (first | refine blk_drewN ?_ _ | refine blk_drew ?_ | refine blk_alloc ?_ _)); exact BK880.out) hb); have n5_ := Aside0.mk (blk_below (g := gb890) (o := .cells #[.int .i64 t885, .slice Ao22 t886.length co22] 28 (0, 0)) (by (with_reducible repeat (first | refine blk_drewN ?_ _ | refine blk_drew ?_ | refine blk_alloc ?_ _)); refine blk_far ?_ NB890_894.out _; (with_reducible repeat (first | refine blk_drewN ?_ _ | refine blk_drew ?_ | refine blk_alloc ?_ _)); exact BK890.out) hb); have n6_ := Aside0.mk (blk_below (g := gb894) (o := .cells #[.slice Ao26 t891.length co26] 58 (0, 0)) (by (with_reducible repeat (first | refine blk_drewN ?_ _ | refine blk_drew ?_ | refine blk_alloc ?_ _)); refine blk_put (cs := #[.slice none 0 0]) ?_ 0 _ rfl; (with_reducible repeat (first | refine blk_drewN ?_ _ | refine blk_drew ?_ | refine blk_alloc ?_ _)); exact BK894.out) hb); have n7_ := Aside0.mk (below_step (by repeat (first | (with_reducible first | exact HB.out | apply below_alloc | apply pw_below_drewN | apply below_drew1 | refine below_set ?_ GE880.out | refine below_set ?_ GE890.out | refine below_set ?_ GE894.out) | exact HB.out)) hb); clear HO884; clear HO888; clear HO893; clear BK880; clear BK890; clear BK894; clear HB; have HO884 := n0_; have HO888 := n1_; have HO893 := n2_; have HO898 := n3_; have BK880 := n4_; have BK890 := n5_; have BK894 := n6_; have HB := n7_; clear n0_ n1_ n2_ n3_ n4_ n5_ n6_ n7_; (try clear hb); (try clear hb2); (try clear hk); (try clear hi); (try clear ho0)) | ((with_reducible refine gate_dst (N := 7) rfl ?_); refine box_event ?hg (N := 7) ?hd (cs := #[.int .i64 0, .slice none 0 0]) (t := 28) ?hr ?_; (case hd => rfl); (case hg => rfl); (case hr => first | (go_simp; done) | (go_simp; rfl)); intro gb900 hg w31 hbox hb; have n0_ := Aside0.mk (Kd.R_below (by (with_reducible repeat (first | apply Kd.R_alloc | apply Kd.R_drewN | apply Kd.R_drew)); exact HO884.out) hb); have n1_ := Aside0.mk (Kd.R_below (by (with_reducible repeat (first | apply Kd.R_alloc | apply Kd.R_drewN | apply Kd.R_drew)); exact HO888.out) hb); have n2_ := Aside0.mk (Kd.R_below (by (with_reducible repeat (first | apply Kd.R_alloc | apply Kd.R_drewN | apply Kd.R_drew)); exact HO893.out) hb); have n3_ := Aside0.mk (Kd.R_below (by (with_reducible repeat (first | apply Kd.R_alloc | apply Kd.R_drewN | apply Kd.R_drew)); exact HO898.out) hb); have n4_ := Aside0.mk (blk_below (g := gb880) (o := .cells #[.slice A0_0 l0_0.length c0_0] 55 (0, 0)) (by (with_reducible repeat (first | refine blk_drewN ?_ _ | refine blk_drew ?_ | refine blk_alloc ?_ _)); exact BK880.out) hb); have n5_ := Aside0.mk (blk_below (g := gb890) (o := .cells #[.int .i64 t885, .slice Ao22 t886.length co22] 28 (0, 0)) (by (with_reducible repeat (first | refine blk_drewN ?_ _ | refine blk_drew ?_ | refine blk_alloc ?_ _)); exact BK890.out) hb); have n6_ := Aside0.mk (blk_below (g := gb894) (o := .cells #[.slice Ao26 t891.length co26] 58 (0, 0)) (by (with_reducible repeat (first | refine blk_drewN ?_ _ | refine blk_drew ?_ | refine blk_alloc ?_ _)); exact BK894.out) hb); have n7_ := Aside0.mk (below_step (by repeat (first | (with_reducible first | exact HB.out | apply below_alloc | apply pw_below_drewN | apply below_drew1 | refine below_set ?_ GE880.out | refine below_set ?_ GE890.out | refine below_set ?_ GE894.out) | exact HB.out)) hb); have n8_ := Aside0.mk (hbox); have n9_ := Aside0.mk ((by rw [hg]; exact (below_size (by repeat (first | (with_reducible first | exact HB.out | apply below_alloc | apply pw_below_drewN | apply below_drew1 | refine below_set ?_ GE880.out | refine below_set ?_ GE890.out | refine below_set ?_ GE894.out) | exact HB.out))) : w.heap.size ≤ gb900)); have n10_ := Aside0.mk ((by rw [hg]; exact (below_size (by repeat (first | (with_reducible first | exact HB.out | apply below_alloc | apply pw_below_drewN | apply below_drew1 | refine below_set ?_ GE880.out | refine below_set ?_ GE890.out | refine below_set ?_ GE894.out) | exact HB.out))) : w.heap.size ≤ gb900)); have n11_ := Aside0.mk ((by rw [hg]; exact Nat.ne_of_lt (blk_lt (g := gb880) (o := .cells #[.slice A0_0 l0_0.length c0_0] 55 (0, 0)) (by (with_reducible repeat (first | refine blk_drewN ?_ _ | refine blk_drew ?_ | refine blk_alloc ?_ _)); exact BK880.out)) : gb880 ≠ gb900)); have n12_ := Aside0.mk ((by rw [hg]; exact Nat.ne_of_gt (blk_lt (g := gb880) (o := .cells #[.slice A0_0 l0_0.length c0_0] 55 (0, 0)) (by (with_reducible repeat (first | refine blk_drewN ?_ _ | refine blk_drew ?_ | refine blk_alloc ?_ _)); exact BK880.out)) : gb900 ≠ gb880)); have n13_ := Aside0.mk ((by rw [hg]; exact Nat.ne_of_lt (blk_lt (g := gb890) (o := .cells #[.int .i64 t885, .slice Ao22 t886.length co22] 28 (0, 0)) (by (with_reducible repeat (first | refine blk_drewN ?_ _ | refine blk_drew ?_ | refine blk_alloc ?_ _)); exact BK890.out)) : gb890 ≠ gb900)); have n14_ := Aside0.mk ((by rw [hg]; exact Nat.ne_of_gt (blk_lt (g := gb890) (o := .cells #[.int .i64 t885, .slice Ao22 t886.length co22] 28 (0, 0)) (by (with_reducible repeat (first | refine blk_drewN ?_ _ | refine blk_drew ?_ | refine blk_alloc ?_ _)); exact BK890.out)) : gb900 ≠ gb890)); have n15_ := Aside0.mk ((by rw [hg]; exact Nat.ne_of_lt (blk_lt (g := gb894) (o := .cells #[.slice Ao26 t891.length co26] 58 (0, 0)) (by (with_reducible repeat (first | refine blk_drewN ?_ _ | refine blk_drew ?_ | refine blk_alloc ?_ _)); exact BK894.out)) : gb894 ≠ gb900)); have n16_ := Aside0.mk ((by rw [hg]; exact Nat.ne_of_gt (blk_lt (g := gb894) (o := .cells #[.slice Ao26 t891.length co26] 58 (0, 0)) (by (with_reducible repeat (first | refine blk_drewN ?_ _ | refine blk_drew ?_ | refine blk_alloc ?_ _)); exact BK894.out)) : gb900 ≠ gb894)); clear HO884; clear HO888; clear HO893; clear HO898; clear BK880; clear BK890; clear BK894; clear HB; have HO884 := n0_; have HO888 := n1_; have HO893 := n2_; have HO898 := n3_; have BK880 := n4_; have BK890 := n5_; have BK894 := n6_; have HB := n7_; have BK900 := n8_; have GW900 := n9_; have GE900 := n10_; have NB880_900 := n11_; have NB900_880 := n12_; have NB890_900 := n13_; have NB900_890 := n14_; have NB894_900 := n15_; have NB900_894 := n16_; clear n0_ n1_ n2_ n3_ n4_ n5_ n6_ n7_ n8_ n9_ n10_ n11_ n12_ n13_ n14_ n15_ n16_; clear hb hbox hg; have hnb32 := NB900_880.out; have hnc32 := NB880_900.out; have hnb33 := NB900_890.out; have hnc33 := NB890_900.out; have hnb34 := NB900_894.out; have hnc34 := NB894_900.out; have hcz35_0 : w31.cell? ⟨gb900, 0, none⟩ = some (.int .i64 0) := (blk_cell BK900.out 0).trans rfl; have hcz35_1 : w31.cell? ⟨gb900, 1, none⟩ = some (.slice none 0 0) := (blk_cell BK900.out 1).trans rfl; have hfz35_0 := blk_frozen BK900.out 0; have hfz35_1 := blk_frozen BK900.out 1; obtain ⟨Ao36, co36, eo36⟩ := Kd.R_slice HO898.out; subst eo36))
    (try simp only [Act.put, List.setIfInBounds_toArray, List.set_cons_zero, List.set_cons_succ])
    go_cut [40] (fun v40 wc => ∃ (kq : Nat) (x40_10 : Bool), v40 = .bool x40_10 ∧ Aside0 (laws_FnExactChordalSpace.j0 kq t889 t899 x40_10 l0_0 t885 t886 t891 t895 t896 = some r) ∧ Aside0 (kq ≤ k) ∧ Aside0 (Kd.R (Kd.int .i64) 3 wc w.heap.size (fun k_ => some k_ ≠ ((.slice Ao26 t891.length co26) : Value).ownBlock ∧ some k_ ≠ ((.slice Ao36 t896.length co36) : Value).ownBlock) (.slice Ao22 t886.length co22) t886) ∧ Aside0 (Kd.R (Kd.int .i64) 3 wc w.heap.size (fun k_ => some k_ ≠ ((.slice Ao22 t886.length co22) : Value).ownBlock ∧ some k_ ≠ ((.slice Ao36 t896.length co36) : Value).ownBlock) (.slice Ao26 t891.length co26) t891) ∧ Aside0 (Kd.R (Kd.int .i64) 3 wc w.heap.size (fun k_ => some k_ ≠ ((.slice Ao22 t886.length co22) : Value).ownBlock ∧ some k_ ≠ ((.slice Ao26 t891.length co26) : Value).ownBlock) (.slice Ao36 t896.length co36) t896) ∧ Aside0 (wc.heap[gb880]? = some (.cells #[(.slice A0_0 l0_0.length c0_0)] 55 (0, 0))) ∧ Aside0 (wc.heap[gb890]? = some (.cells #[.int .i64 t885, (.slice Ao22 t886.length co22)] 28 (0, 0))) ∧ Aside0 (wc.heap[gb894]? = some (.cells #[(.slice Ao26 t891.length co26)] 58 (0, 0))) ∧ Aside0 (wc.heap[gb900]? = some (.cells #[.int .i64 t895, (.slice Ao36 t896.length co36)] 28 (0, 0))) ∧ Aside0 (Below w.heap.size w wc))
    case first =>
      have H := HC11.out
      clear HC11
      replace H := Option.bind_eq_some_iff.mp H
      obtain ⟨t901, A370, H⟩ := H
      replace H : (if t901 = true then (laws_FnExactChordalSpace.j0 k t889 t899 (t899 != t889) l0_0 t885 t886 t891 t895 t896) else (laws_FnExactChordalSpace.j0 k t889 t899 true l0_0 t885 t886 t891 t895 t896)) = some r := H
      have A37 := Aside0.mk A370
      clear A370
      by_cases c38 : t901 = true
      · subst c38
        have H1 : (laws_FnExactChordalSpace.j0 k t889 t899 (t899 != t889) l0_0 t885 t886 t891 t895 t896) = some r := by rw [if_pos rfl] at H; exact H
        clear H
        have H := H1
        clear H1
        have H' := Aside0.mk H
        clear H
        have hnb39 := NB900_880.out
        have hnc39 := NB880_900.out
        have hnb40 := NB900_890.out
        have hnc40 := NB890_900.out
        have hnb41 := NB900_894.out
        have hnc41 := NB894_900.out
        have hcz42_0 : w31.cell? ⟨gb900, 0, none⟩ = some (.int .i64 0) := (blk_cell BK900.out 0).trans rfl
        have hcz42_1 : w31.cell? ⟨gb900, 1, none⟩ = some (.slice none 0 0) := (blk_cell BK900.out 1).trans rfl
        have hfz42_0 := blk_frozen BK900.out 0
        have hfz42_1 := blk_frozen BK900.out 1
        have hnb43 := NB890_880.out
        have hnc43 := NB880_890.out
        have hnb44 := NB890_894.out
        have hnc44 := NB894_890.out
        have hcz45_0 : w31.cell? ⟨gb890, 0, none⟩ = some (.int .i64 t885) := (blk_cell BK890.out 0).trans rfl
        have hcz45_1 : w31.cell? ⟨gb890, 1, none⟩ = some (.slice Ao22 t886.length co22) := (blk_cell BK890.out 1).trans rfl
        have hfz45_0 := blk_frozen BK890.out 0
        have hfz45_1 := blk_frozen BK890.out 1
        go_wp2_with (first | ((with_reducible refine gate_callee (f := 19) rfl ?_); refine goesL_ (some 34) rfl rfl Try.func19 (by kernel_rfl) rfl #[.agg #[.int .i64 t895, .slice Ao36 t896.length co36], .agg #[.int .i64 t885, .slice Ao22 t886.length co22]] rfl (by (try simp only [List.map_toArray, List.map_cons, List.map_nil]); first | done | rfl | (simp only [List.length_drop, List.length_take]; rfl)) ?_; (with_reducible refine (laws_eqSpace.calls k t895 _ _ t896 t885 _ _ t886 true _ ?side1 ?side2 ?side3 ?side4 A37.out).mono ?_); (case side1 => refine (Kd.R_reads' (e := 3) (base := w.heap.size) (ok := fun k_ => (((True ∧ some k_ ≠ (.slice Ao17 t882.length co17 : Value).ownBlock) ∧ some k_ ≠ (.slice Ao22 t886.length co22 : Value).ownBlock) ∧ some k_ ≠ (.slice Ao26 t891.length co26 : Value).ownBlock)) (n := t896.length) (c := co36) ?_).2.2; exact (by (with_reducible repeat (first | apply Kd.R_alloc | apply Kd.R_drewN | apply Kd.R_drew)); exact (Kd.R_mono (Kd.R_far (p := ⟨gb900, 1, none⟩) (Kd.R_far (p := ⟨gb900, 0, none⟩) (Kd.R_types HO898.out BK900.out (by decide)) (fun _ hk => hk.2) (.int .i64 t895)) (fun _ hk => hk.2) (.slice Ao36 t896.length co36)) (fun _ h_ => h_.1)))); (case side2 => exact (Kd.R_reads' HO898.out).2.1); (case side3 => refine (Kd.R_reads' (e := 3) (base := w.heap.size) (ok := fun k_ => (((True ∧ some k_ ≠ (.slice Ao17 t882.length co17 : Value).ownBlock) ∧ some k_ ≠ (.slice Ao26 t891.length co26 : Value).ownBlock) ∧ some k_ ≠ (.slice Ao36 t896.length co36 : Value).ownBlock)) (n := t886.length) (c := co22) ?_).2.2; exact (by (with_reducible repeat (first | apply Kd.R_alloc | apply Kd.R_drewN | apply Kd.R_drew)); exact (Kd.R_mono (Kd.R_far (p := ⟨gb900, 1, none⟩) (Kd.R_far (p := ⟨gb900, 0, none⟩) (Kd.R_types HO888.out BK900.out (by decide)) (fun _ hk => hk.2) (.int .i64 t895)) (fun _ hk => hk.2) (.slice Ao36 t896.length co36)) (fun _ h_ => h_.1)))); (case side4 => exact (Kd.R_reads' HO888.out).2.1); rintro e w46 ⟨rfl, hb⟩; refine ⟨_, rfl, ?_⟩; have n0_ := Aside0.mk (Kd.R_below (by (with_reducible repeat (first | apply Kd.R_alloc | apply Kd.R_drewN | apply Kd.R_drew)); exact (Kd.R_mono (Kd.R_far (p := ⟨gb900, 1, none⟩) (Kd.R_far (p := ⟨gb900, 0, none⟩) (Kd.R_types HO884.out BK900.out (by decide)) (fun _ hk => hk.2) (.int .i64 t895)) (fun _ hk => hk.2) (.slice Ao36 t896.length co36)) (fun _ h_ => h_.1))) hb); have n1_ := Aside0.mk (Kd.R_below (by (with_reducible repeat (first | apply Kd.R_alloc | apply Kd.R_drewN | apply Kd.R_drew)); exact (Kd.R_mono (Kd.R_far (p := ⟨gb900, 1, none⟩) (Kd.R_far (p := ⟨gb900, 0, none⟩) (Kd.R_types HO888.out BK900.out (by decide)) (fun _ hk => hk.2) (.int .i64 t895)) (fun _ hk => hk.2) (.slice Ao36 t896.length co36)) (fun _ h_ => h_.1))) hb); have n2_ := Aside0.mk (Kd.R_below (by (with_reducible repeat (first | apply Kd.R_alloc | apply Kd.R_drewN | apply Kd.R_drew)); exact (Kd.R_mono (Kd.R_far (p := ⟨gb900, 1, none⟩) (Kd.R_far (p := ⟨gb900, 0, none⟩) (Kd.R_types HO893.out BK900.out (by decide)) (fun _ hk => hk.2) (.int .i64 t895)) (fun _ hk => hk.2) (.slice Ao36 t896.length co36)) (fun _ h_ => h_.1))) hb); have n3_ := Aside0.mk (Kd.R_below (by (with_reducible repeat (first | apply Kd.R_alloc | apply Kd.R_drewN | apply Kd.R_drew)); exact (Kd.R_mono (Kd.R_far (p := ⟨gb900, 1, none⟩) (Kd.R_far (p := ⟨gb900, 0, none⟩) (Kd.R_types HO898.out BK900.out (by decide)) (fun _ hk => hk.2) (.int .i64 t895)) (fun _ hk => hk.2) (.slice Ao36 t896.length co36)) (fun _ h_ => h_.1))) hb); have n4_ := Aside0.mk (blk_below (g := gb880) (o := .cells #[.slice A0_0 l0_0.length c0_0] 55 (0, 0)) (by (with_reducible repeat (first | refine blk_drewN ?_ _ | refine blk_drew ?_ | refine blk_alloc ?_ _)); refine blk_far ?_ NB880_900.out _; (with_reducible repeat (first | refine blk_drewN ?_ _ | refine blk_drew ?_ | refine blk_alloc ?_ _)); refine blk_far ?_ NB880_900.out _; (with_reducible repeat (first | refine blk_drewN ?_ _ | refine blk_drew ?_ | refine blk_alloc ?_ _)); exact BK880.out) hb); have n5_ := Aside0.mk (blk_below (g := gb890) (o := .cells #[.int .i64 t885, .slice Ao22 t886.length co22] 28 (0, 0)) (by (with_reducible repeat (first | refine blk_drewN ?_ _ | refine blk_drew ?_ | refine blk_alloc ?_ _)); refine blk_far ?_ NB890_900.out _; (with_reducible repeat (first | refine blk_drewN ?_ _ | refine blk_drew ?_ | refine blk_alloc ?_ _)); refine blk_far ?_ NB890_900.out _; (with_reducible repeat (first | refine blk_drewN ?_ _ | refine blk_drew ?_ | refine blk_alloc ?_ _)); exact BK890.out) hb); have n6_ := Aside0.mk (blk_below (g := gb894) (o := .cells #[.slice Ao26 t891.length co26] 58 (0, 0)) (by (with_reducible repeat (first | refine blk_drewN ?_ _ | refine blk_drew ?_ | refine blk_alloc ?_ _)); refine blk_far ?_ NB894_900.out _; (with_reducible repeat (first | refine blk_drewN ?_ _ | refine blk_drew ?_ | refine blk_alloc ?_ _)); refine blk_far ?_ NB894_900.out _; (with_reducible repeat (first | refine blk_drewN ?_ _ | refine blk_drew ?_ | refine blk_alloc ?_ _)); exact BK894.out) hb); have n7_ := Aside0.mk (blk_below (g := gb900) (o := .cells #[.int .i64 t895, .slice Ao36 t896.length co36] 28 (0, 0)) (by (with_reducible repeat (first | refine blk_drewN ?_ _ | refine blk_drew ?_ | refine blk_alloc ?_ _)); refine blk_put (cs := #[.int .i64 t895, .slice none 0 0]) ?_ 1 _ rfl; (with_reducible repeat (first | refine blk_drewN ?_ _ | refine blk_drew ?_ | refine blk_alloc ?_ _)); refine blk_put (cs := #[.int .i64 0, .slice none 0 0]) ?_ 0 _ rfl; (with_reducible repeat (first | refine blk_drewN ?_ _ | refine blk_drew ?_ | refine blk_alloc ?_ _)); exact BK900.out) hb); have n8_ := Aside0.mk (below_step (by repeat (first | (with_reducible first | exact HB.out | apply below_alloc | apply pw_below_drewN | apply below_drew1 | refine below_set ?_ GE880.out | refine below_set ?_ GE890.out | refine below_set ?_ GE894.out | refine below_set ?_ GE900.out) | exact HB.out)) hb); clear HO884; clear HO888; clear HO893; clear HO898; clear BK880; clear BK890; clear BK894; clear BK900; clear HB; have HO884 := n0_; have HO888 := n1_; have HO893 := n2_; have HO898 := n3_; have BK880 := n4_; have BK890 := n5_; have BK894 := n6_; have BK900 := n7_; have HB := n8_; clear n0_ n1_ n2_ n3_ n4_ n5_ n6_ n7_ n8_; (try clear hb); (try clear hb2); (try clear hk); (try clear hi)))
        go_meet
        case rel => exact ⟨_, ((t899 != t889)), (by first | rfl | (simp; done) | (simp [*]; done)), H', ⟨by first | omega | exact Nat.le_refl _⟩, ⟨by (with_reducible repeat (first | apply Kd.R_alloc | apply Kd.R_drewN | apply Kd.R_drew)); exact Kd.R_mono HO888.out (fun _ hk => ⟨hk.1.2, hk.2⟩)⟩, ⟨by (with_reducible repeat (first | apply Kd.R_alloc | apply Kd.R_drewN | apply Kd.R_drew)); exact Kd.R_mono HO893.out (fun _ hk => ⟨hk.1.2, hk.2⟩)⟩, ⟨by (with_reducible repeat (first | apply Kd.R_alloc | apply Kd.R_drewN | apply Kd.R_drew)); exact Kd.R_mono HO898.out (fun _ hk => ⟨hk.1.2, hk.2⟩)⟩, ⟨by (with_reducible repeat (first | refine blk_drewN ?_ _ | refine blk_drew ?_ | refine blk_alloc ?_ _)); exact BK880.out⟩, ⟨by (with_reducible repeat (first | refine blk_drewN ?_ _ | refine blk_drew ?_ | refine blk_alloc ?_ _)); exact BK890.out⟩, ⟨by (with_reducible repeat (first | refine blk_drewN ?_ _ | refine blk_drew ?_ | refine blk_alloc ?_ _)); exact BK894.out⟩, ⟨by (with_reducible repeat (first | refine blk_drewN ?_ _ | refine blk_drew ?_ | refine blk_alloc ?_ _)); exact BK900.out⟩, ⟨by repeat (first | (with_reducible first | exact HB.out | apply below_alloc | apply pw_below_drewN | apply below_drew1 | refine below_set ?_ GE880.out | refine below_set ?_ GE890.out | refine below_set ?_ GE894.out | refine below_set ?_ GE900.out) | exact HB.out)⟩⟩
      · replace c38 := Bool.eq_false_iff.mpr c38
        subst c38
        have H1 : (laws_FnExactChordalSpace.j0 k t889 t899 true l0_0 t885 t886 t891 t895 t896) = some r := by rw [if_neg (show ¬ (false = true) by decide)] at H; exact H
        clear H
        have H := H1
        clear H1
        have H' := Aside0.mk H
        clear H
        have hnb47 := NB900_880.out
        have hnc47 := NB880_900.out
        have hnb48 := NB900_890.out
        have hnc48 := NB890_900.out
        have hnb49 := NB900_894.out
        have hnc49 := NB894_900.out
        have hcz50_0 : w31.cell? ⟨gb900, 0, none⟩ = some (.int .i64 0) := (blk_cell BK900.out 0).trans rfl
        have hcz50_1 : w31.cell? ⟨gb900, 1, none⟩ = some (.slice none 0 0) := (blk_cell BK900.out 1).trans rfl
        have hfz50_0 := blk_frozen BK900.out 0
        have hfz50_1 := blk_frozen BK900.out 1
        have hnb51 := NB890_880.out
        have hnc51 := NB880_890.out
        have hnb52 := NB890_894.out
        have hnc52 := NB894_890.out
        have hcz53_0 : w31.cell? ⟨gb890, 0, none⟩ = some (.int .i64 t885) := (blk_cell BK890.out 0).trans rfl
        have hcz53_1 : w31.cell? ⟨gb890, 1, none⟩ = some (.slice Ao22 t886.length co22) := (blk_cell BK890.out 1).trans rfl
        have hfz53_0 := blk_frozen BK890.out 0
        have hfz53_1 := blk_frozen BK890.out 1
        go_wp2_with (first | ((with_reducible refine gate_callee (f := 19) rfl ?_); refine goesL_ (some 34) rfl rfl Try.func19 (by kernel_rfl) rfl #[.agg #[.int .i64 t895, .slice Ao36 t896.length co36], .agg #[.int .i64 t885, .slice Ao22 t886.length co22]] rfl (by (try simp only [List.map_toArray, List.map_cons, List.map_nil]); first | done | rfl | (simp only [List.length_drop, List.length_take]; rfl)) ?_; (with_reducible refine (laws_eqSpace.calls k t895 _ _ t896 t885 _ _ t886 false _ ?side1 ?side2 ?side3 ?side4 A37.out).mono ?_); (case side1 => refine (Kd.R_reads' (e := 3) (base := w.heap.size) (ok := fun k_ => (((True ∧ some k_ ≠ (.slice Ao17 t882.length co17 : Value).ownBlock) ∧ some k_ ≠ (.slice Ao22 t886.length co22 : Value).ownBlock) ∧ some k_ ≠ (.slice Ao26 t891.length co26 : Value).ownBlock)) (n := t896.length) (c := co36) ?_).2.2; exact (by (with_reducible repeat (first | apply Kd.R_alloc | apply Kd.R_drewN | apply Kd.R_drew)); exact (Kd.R_mono (Kd.R_far (p := ⟨gb900, 1, none⟩) (Kd.R_far (p := ⟨gb900, 0, none⟩) (Kd.R_types HO898.out BK900.out (by decide)) (fun _ hk => hk.2) (.int .i64 t895)) (fun _ hk => hk.2) (.slice Ao36 t896.length co36)) (fun _ h_ => h_.1)))); (case side2 => exact (Kd.R_reads' HO898.out).2.1); (case side3 => refine (Kd.R_reads' (e := 3) (base := w.heap.size) (ok := fun k_ => (((True ∧ some k_ ≠ (.slice Ao17 t882.length co17 : Value).ownBlock) ∧ some k_ ≠ (.slice Ao26 t891.length co26 : Value).ownBlock) ∧ some k_ ≠ (.slice Ao36 t896.length co36 : Value).ownBlock)) (n := t886.length) (c := co22) ?_).2.2; exact (by (with_reducible repeat (first | apply Kd.R_alloc | apply Kd.R_drewN | apply Kd.R_drew)); exact (Kd.R_mono (Kd.R_far (p := ⟨gb900, 1, none⟩) (Kd.R_far (p := ⟨gb900, 0, none⟩) (Kd.R_types HO888.out BK900.out (by decide)) (fun _ hk => hk.2) (.int .i64 t895)) (fun _ hk => hk.2) (.slice Ao36 t896.length co36)) (fun _ h_ => h_.1)))); (case side4 => exact (Kd.R_reads' HO888.out).2.1); rintro e w54 ⟨rfl, hb⟩; refine ⟨_, rfl, ?_⟩; have n0_ := Aside0.mk (Kd.R_below (by (with_reducible repeat (first | apply Kd.R_alloc | apply Kd.R_drewN | apply Kd.R_drew)); exact (Kd.R_mono (Kd.R_far (p := ⟨gb900, 1, none⟩) (Kd.R_far (p := ⟨gb900, 0, none⟩) (Kd.R_types HO884.out BK900.out (by decide)) (fun _ hk => hk.2) (.int .i64 t895)) (fun _ hk => hk.2) (.slice Ao36 t896.length co36)) (fun _ h_ => h_.1))) hb); have n1_ := Aside0.mk (Kd.R_below (by (with_reducible repeat (first | apply Kd.R_alloc | apply Kd.R_drewN | apply Kd.R_drew)); exact (Kd.R_mono (Kd.R_far (p := ⟨gb900, 1, none⟩) (Kd.R_far (p := ⟨gb900, 0, none⟩) (Kd.R_types HO888.out BK900.out (by decide)) (fun _ hk => hk.2) (.int .i64 t895)) (fun _ hk => hk.2) (.slice Ao36 t896.length co36)) (fun _ h_ => h_.1))) hb); have n2_ := Aside0.mk (Kd.R_below (by (with_reducible repeat (first | apply Kd.R_alloc | apply Kd.R_drewN | apply Kd.R_drew)); exact (Kd.R_mono (Kd.R_far (p := ⟨gb900, 1, none⟩) (Kd.R_far (p := ⟨gb900, 0, none⟩) (Kd.R_types HO893.out BK900.out (by decide)) (fun _ hk => hk.2) (.int .i64 t895)) (fun _ hk => hk.2) (.slice Ao36 t896.length co36)) (fun _ h_ => h_.1))) hb); have n3_ := Aside0.mk (Kd.R_below (by (with_reducible repeat (first | apply Kd.R_alloc | apply Kd.R_drewN | apply Kd.R_drew)); exact (Kd.R_mono (Kd.R_far (p := ⟨gb900, 1, none⟩) (Kd.R_far (p := ⟨gb900, 0, none⟩) (Kd.R_types HO898.out BK900.out (by decide)) (fun _ hk => hk.2) (.int .i64 t895)) (fun _ hk => hk.2) (.slice Ao36 t896.length co36)) (fun _ h_ => h_.1))) hb); have n4_ := Aside0.mk (blk_below (g := gb880) (o := .cells #[.slice A0_0 l0_0.length c0_0] 55 (0, 0)) (by (with_reducible repeat (first | refine blk_drewN ?_ _ | refine blk_drew ?_ | refine blk_alloc ?_ _)); refine blk_far ?_ NB880_900.out _; (with_reducible repeat (first | refine blk_drewN ?_ _ | refine blk_drew ?_ | refine blk_alloc ?_ _)); refine blk_far ?_ NB880_900.out _; (with_reducible repeat (first | refine blk_drewN ?_ _ | refine blk_drew ?_ | refine blk_alloc ?_ _)); exact BK880.out) hb); have n5_ := Aside0.mk (blk_below (g := gb890) (o := .cells #[.int .i64 t885, .slice Ao22 t886.length co22] 28 (0, 0)) (by (with_reducible repeat (first | refine blk_drewN ?_ _ | refine blk_drew ?_ | refine blk_alloc ?_ _)); refine blk_far ?_ NB890_900.out _; (with_reducible repeat (first | refine blk_drewN ?_ _ | refine blk_drew ?_ | refine blk_alloc ?_ _)); refine blk_far ?_ NB890_900.out _; (with_reducible repeat (first | refine blk_drewN ?_ _ | refine blk_drew ?_ | refine blk_alloc ?_ _)); exact BK890.out) hb); have n6_ := Aside0.mk (blk_below (g := gb894) (o := .cells #[.slice Ao26 t891.length co26] 58 (0, 0)) (by (with_reducible repeat (first | refine blk_drewN ?_ _ | refine blk_drew ?_ | refine blk_alloc ?_ _)); refine blk_far ?_ NB894_900.out _; (with_reducible repeat (first | refine blk_drewN ?_ _ | refine blk_drew ?_ | refine blk_alloc ?_ _)); refine blk_far ?_ NB894_900.out _; (with_reducible repeat (first | refine blk_drewN ?_ _ | refine blk_drew ?_ | refine blk_alloc ?_ _)); exact BK894.out) hb); have n7_ := Aside0.mk (blk_below (g := gb900) (o := .cells #[.int .i64 t895, .slice Ao36 t896.length co36] 28 (0, 0)) (by (with_reducible repeat (first | refine blk_drewN ?_ _ | refine blk_drew ?_ | refine blk_alloc ?_ _)); refine blk_put (cs := #[.int .i64 t895, .slice none 0 0]) ?_ 1 _ rfl; (with_reducible repeat (first | refine blk_drewN ?_ _ | refine blk_drew ?_ | refine blk_alloc ?_ _)); refine blk_put (cs := #[.int .i64 0, .slice none 0 0]) ?_ 0 _ rfl; (with_reducible repeat (first | refine blk_drewN ?_ _ | refine blk_drew ?_ | refine blk_alloc ?_ _)); exact BK900.out) hb); have n8_ := Aside0.mk (below_step (by repeat (first | (with_reducible first | exact HB.out | apply below_alloc | apply pw_below_drewN | apply below_drew1 | refine below_set ?_ GE880.out | refine below_set ?_ GE890.out | refine below_set ?_ GE894.out | refine below_set ?_ GE900.out) | exact HB.out)) hb); clear HO884; clear HO888; clear HO893; clear HO898; clear BK880; clear BK890; clear BK894; clear BK900; clear HB; have HO884 := n0_; have HO888 := n1_; have HO893 := n2_; have HO898 := n3_; have BK880 := n4_; have BK890 := n5_; have BK894 := n6_; have BK900 := n7_; have HB := n8_; clear n0_ n1_ n2_ n3_ n4_ n5_ n6_ n7_ n8_; (try clear hb); (try clear hb2); (try clear hk); (try clear hi)))
        go_meet
        case rel => exact ⟨_, (true), (by first | rfl | (simp; done) | (simp [*]; done)), H', ⟨by first | omega | exact Nat.le_refl _⟩, ⟨by (with_reducible repeat (first | apply Kd.R_alloc | apply Kd.R_drewN | apply Kd.R_drew)); exact Kd.R_mono HO888.out (fun _ hk => ⟨hk.1.2, hk.2⟩)⟩, ⟨by (with_reducible repeat (first | apply Kd.R_alloc | apply Kd.R_drewN | apply Kd.R_drew)); exact Kd.R_mono HO893.out (fun _ hk => ⟨hk.1.2, hk.2⟩)⟩, ⟨by (with_reducible repeat (first | apply Kd.R_alloc | apply Kd.R_drewN | apply Kd.R_drew)); exact Kd.R_mono HO898.out (fun _ hk => ⟨hk.1.2, hk.2⟩)⟩, ⟨by (with_reducible repeat (first | refine blk_drewN ?_ _ | refine blk_drew ?_ | refine blk_alloc ?_ _)); exact BK880.out⟩, ⟨by (with_reducible repeat (first | refine blk_drewN ?_ _ | refine blk_drew ?_ | refine blk_alloc ?_ _)); exact BK890.out⟩, ⟨by (with_reducible repeat (first | refine blk_drewN ?_ _ | refine blk_drew ?_ | refine blk_alloc ?_ _)); exact BK894.out⟩, ⟨by (with_reducible repeat (first | refine blk_drewN ?_ _ | refine blk_drew ?_ | refine blk_alloc ?_ _)); exact BK900.out⟩, ⟨by repeat (first | (with_reducible first | exact HB.out | apply below_alloc | apply pw_below_drewN | apply below_drew1 | refine below_set ?_ GE880.out | refine below_set ?_ GE890.out | refine below_set ?_ GE894.out | refine below_set ?_ GE900.out) | exact HB.out)⟩⟩
    case rest =>
      clear HC11
      try clear c1
      try clear c2
      try clear p2
      try clear c3
      try clear c3b0
      try clear c4
      try clear c5
      try clear c10
      try clear c19
      try clear c20
      try clear c27
      try clear c28
      try clear c32
      try clear c33
      try clear c34
      try clear c38
      try clear c39
      try clear c40
      try clear c41
      try clear c43
      try clear c44
      try clear c45
      try clear c46
      try clear c47
      try clear c48
      try clear c49
      try clear c51
      try clear c52
      try clear hcz13_0
      try clear hcz15_0
      try clear hcz21_0
      try clear hcz21_1
      try clear hcz23_0
      try clear hcz29_0
      try clear hcz35_0
      try clear hcz35_1
      try clear hcz42_0
      try clear hcz42_1
      try clear hcz45_0
      try clear hcz45_1
      try clear hcz50_0
      try clear hcz50_1
      try clear hcz53_0
      try clear hcz53_1
      try clear hcz5_0
      try clear hfz13_0
      try clear hfz15_0
      try clear hfz21_0
      try clear hfz21_1
      try clear hfz23_0
      try clear hfz29_0
      try clear hfz35_0
      try clear hfz35_1
      try clear hfz42_0
      try clear hfz42_1
      try clear hfz45_0
      try clear hfz45_1
      try clear hfz50_0
      try clear hfz50_1
      try clear hfz53_0
      try clear hfz53_1
      try clear hfz5_0
      obtain ⟨kq, x40_10, rfl, HA, HJ10, HO_891001, HO_895000, HO_901001, BK880, BK890, BK894, BK900, HB⟩ := hcut
      cases kq with
      | zero => exact absurd HA.out (by simp [laws_FnExactChordalSpace.j0])
      | succ kj10 =>
        have H := HA.out
        clear HA
        simp only [laws_FnExactChordalSpace.j0] at H
        by_cases c55 : x40_10 = true
        · subst c55
          have H1 : (some false) = some r := by rw [if_pos rfl] at H; exact H
          clear H
          have H := H1
          clear H1
          obtain rfl := Option.some.inj H
          go_wp2
          go_ret
          exact ⟨by first | rfl | (simp [errW_none, errW_some] <;> rfl) | (simp [*, errW_none, errW_some] <;> rfl), by repeat (first | (with_reducible first | exact HB.out | apply below_alloc | apply pw_below_drewN | apply below_drew1 | refine below_set ?_ GE880.out | refine below_set ?_ GE890.out | refine below_set ?_ GE894.out | refine below_set ?_ GE900.out) | exact HB.out)⟩
        · replace c55 := Bool.eq_false_iff.mpr c55
          subst c55
          have H1 : ((laws_toNet.f kj10 l0_0).bind fun t902 => ((laws_eqNet.f kj10 t891 t902).bind fun t905 => (if t905 = true then ((laws_markNet.f kj10 t891 1).bind fun bt906 => (if bt906.1 < 0 then (laws_FnExactChordalSpace.j1 kj10 t889 true l0_0 t885 t886 t895 t896) else ((laws_eqSpace.f kj10 t895 t896 t885 t886).bind fun t908 => (if t908 = true then (laws_FnExactChordalSpace.j1 kj10 t889 (t899 != t889) l0_0 t885 t886 t895 t896) else (laws_FnExactChordalSpace.j1 kj10 t889 true l0_0 t885 t886 t895 t896))))) else (some false)))) = some r := by rw [if_neg (show ¬ (false = true) by decide)] at H; exact H
          clear H
          have H := H1
          clear H1
          replace H := Option.bind_eq_some_iff.mp H
          obtain ⟨t902, A560, H⟩ := H
          replace H : ((laws_eqNet.f kj10 t891 t902).bind fun t905 => (if t905 = true then ((laws_markNet.f kj10 t891 1).bind fun bt906 => (if bt906.1 < 0 then (laws_FnExactChordalSpace.j1 kj10 t889 true l0_0 t885 t886 t895 t896) else ((laws_eqSpace.f kj10 t895 t896 t885 t886).bind fun t908 => (if t908 = true then (laws_FnExactChordalSpace.j1 kj10 t889 (t899 != t889) l0_0 t885 t886 t895 t896) else (laws_FnExactChordalSpace.j1 kj10 t889 true l0_0 t885 t886 t895 t896))))) else (some false))) = some r := H
          have A56 := Aside0.mk A560
          clear A560
          replace H := Option.bind_eq_some_iff.mp H
          obtain ⟨t905, A570, H⟩ := H
          replace H : (if t905 = true then ((laws_markNet.f kj10 t891 1).bind fun bt906 => (if bt906.1 < 0 then (laws_FnExactChordalSpace.j1 kj10 t889 true l0_0 t885 t886 t895 t896) else ((laws_eqSpace.f kj10 t895 t896 t885 t886).bind fun t908 => (if t908 = true then (laws_FnExactChordalSpace.j1 kj10 t889 (t899 != t889) l0_0 t885 t886 t895 t896) else (laws_FnExactChordalSpace.j1 kj10 t889 true l0_0 t885 t886 t895 t896))))) else (some false)) = some r := H
          have A57 := Aside0.mk A570
          clear A570
          by_cases c58 : t905 = true
          · subst c58
            have H1 : ((laws_markNet.f kj10 t891 1).bind fun bt906 => (if bt906.1 < 0 then (laws_FnExactChordalSpace.j1 kj10 t889 true l0_0 t885 t886 t895 t896) else ((laws_eqSpace.f kj10 t895 t896 t885 t886).bind fun t908 => (if t908 = true then (laws_FnExactChordalSpace.j1 kj10 t889 (t899 != t889) l0_0 t885 t886 t895 t896) else (laws_FnExactChordalSpace.j1 kj10 t889 true l0_0 t885 t886 t895 t896))))) = some r := by rw [if_pos rfl] at H; exact H
            clear H
            have H := H1
            clear H1
            replace H := Option.bind_eq_some_iff.mp H
            obtain ⟨⟨t906, t907⟩, A590, H⟩ := H
            replace H : (if t906 < 0 then (laws_FnExactChordalSpace.j1 kj10 t889 true l0_0 t885 t886 t895 t896) else ((laws_eqSpace.f kj10 t895 t896 t885 t886).bind fun t908 => (if t908 = true then (laws_FnExactChordalSpace.j1 kj10 t889 (t899 != t889) l0_0 t885 t886 t895 t896) else (laws_FnExactChordalSpace.j1 kj10 t889 true l0_0 t885 t886 t895 t896)))) = some r := H
            have A59 := Aside0.mk A590
            clear A590
            have HC60 := Aside0.mk H
            clear H
            try go_wp2
            have n0_ := Aside0.mk (Kd.R_drew HO_891001.out)
            have n1_ := Aside0.mk (Kd.R_drew HO_895000.out)
            have n2_ := Aside0.mk (Kd.R_drew HO_901001.out)
            have n3_ := Aside0.mk (blk_drew BK880.out)
            have n4_ := Aside0.mk (blk_drew BK890.out)
            have n5_ := Aside0.mk (blk_drew BK894.out)
            have n6_ := Aside0.mk (blk_drew BK900.out)
            have n7_ := Aside0.mk (below_drew1 HB.out)
            clear HO_891001
            clear HO_895000
            clear HO_901001
            clear BK880
            clear BK890
            clear BK894
            clear BK900
            clear HB
            have HO_891001 := n0_
            have HO_895000 := n1_
            have HO_901001 := n2_
            have BK880 := n3_
            have BK890 := n4_
            have BK894 := n5_
            have BK900 := n6_
            have HB := n7_
            clear n0_ n1_ n2_ n3_ n4_ n5_ n6_ n7_
            refine start_ (n := 5) (S := fun w' => w'.cell? ⟨gb894, 0, none⟩ = some (.slice Ao26 t891.length co26) ∧ w'.cell? ⟨gb880, 0, none⟩ = some (.slice A0_0 l0_0.length c0_0)) (ds := []) #[false, false, false, false, false] (by kernel_rfl) rfl rfl ⟨(blk_cell BK894.out 0).trans rfl, (blk_cell BK880.out 0).trans rfl⟩ (fun hHeld => ?_)
            generalize wc.drew = w61 at HO_891001 HO_895000 HO_901001 BK880 BK890 BK894 BK900 HB hHeld ⊢
            refine take_ (i := 0) (N := some 41) (v := ?_) (a' := ?_) #[true, false, false, false, false] rfl rfl (by kernel_rfl) (fun _ _ _ h => h) (Or.inl ⟨by rfl, ?_⟩) hHeld ?_ ?_
            rotate_left
            · rintro w' ⟨s0, s1⟩
              go_simp
              with_reducible rfl
            rotate_left
            · simp only [Act.put, List.setIfInBounds_toArray, List.set_cons_zero, List.set_cons_succ, i64_w, i32_w]
              rfl
            refine take_ (i := 1) (N := some 42) (v := ?_) (a' := ?_) #[true, true, false, false, false] rfl rfl (by kernel_rfl) (fun _ _ _ h => h) (Or.inl ⟨by rfl, ?_⟩) hHeld ?_ ?_
            rotate_left
            · rintro w' ⟨s0, s1⟩
              go_simp
              with_reducible rfl
            rotate_left
            · simp only [Act.put, List.setIfInBounds_toArray, List.set_cons_zero, List.set_cons_succ, i64_w, i32_w]
              rfl
            refine one_ (i := 2) (N := some 43) #[true, true, true, false, false] rfl rfl (by kernel_rfl) (by decide) (fun K hK => ?_)
            refine goes_ Try.func45 (by kernel_rfl) rfl #[.agg #[.slice A0_0 l0_0.length c0_0]] (by rfl) rfl rfl (by (try simp only [List.map_toArray, List.map_cons, List.map_nil]); first | done | rfl | (simp only [List.length_drop, List.length_take]; rfl)) ?_
            with_reducible refine (laws_toNet.calls kj10 _ _ l0_0 t902 _ ?side1 ?side2 A56.out).mono ?_
            (case side1 => repeat (first | exact (Kd.C_below HR0_0.out HB.out) | (with_reducible refine Kd.C_alloc ?_ _) | (with_reducible refine Kd.C_drewN ?_ _) | (with_reducible refine Kd.C_drew ?_)))
            (case side2 => exact HC0_0.out)
            rintro e w62 ⟨v903, rfl, ho0, hb⟩
            refine ⟨_, rfl, ?_⟩
            have n0_ := Aside0.mk (Kd.R_elder' (by (with_reducible repeat (first | apply Kd.R_alloc | apply Kd.R_drewN | apply Kd.R_drew)); exact HO_891001.out) (Kd.R_base ho0) hb)
            have n1_ := Aside0.mk (Kd.R_elder' (by (with_reducible repeat (first | apply Kd.R_alloc | apply Kd.R_drewN | apply Kd.R_drew)); exact HO_895000.out) (Kd.R_base ho0) hb)
            have n2_ := Aside0.mk (Kd.R_elder' (by (with_reducible repeat (first | apply Kd.R_alloc | apply Kd.R_drewN | apply Kd.R_drew)); exact HO_901001.out) (Kd.R_base ho0) hb)
            have n3_ := Aside0.mk (Kd.R_lower (Kd.R_new' (Kd.R_new' (Kd.R_new' ho0 (Kd.R_lt (by (with_reducible repeat (first | apply Kd.R_alloc | apply Kd.R_drewN | apply Kd.R_drew)); exact HO_891001.out))) (Kd.R_lt (by (with_reducible repeat (first | apply Kd.R_alloc | apply Kd.R_drewN | apply Kd.R_drew)); exact HO_895000.out))) (Kd.R_lt (by (with_reducible repeat (first | apply Kd.R_alloc | apply Kd.R_drewN | apply Kd.R_drew)); exact HO_901001.out))) (below_size (by repeat (first | (with_reducible first | exact HB.out | apply below_alloc | apply pw_below_drewN | apply below_drew1 | refine below_set ?_ GE880.out | refine below_set ?_ GE890.out | refine below_set ?_ GE894.out | refine below_set ?_ GE900.out) | exact HB.out))))
            have n4_ := Aside0.mk (blk_below (g := gb880) (o := .cells #[.slice A0_0 l0_0.length c0_0] 55 (0, 0)) (by (with_reducible repeat (first | refine blk_drewN ?_ _ | refine blk_drew ?_ | refine blk_alloc ?_ _)); exact BK880.out) hb)
            have n5_ := Aside0.mk (blk_below (g := gb890) (o := .cells #[.int .i64 t885, .slice Ao22 t886.length co22] 28 (0, 0)) (by (with_reducible repeat (first | refine blk_drewN ?_ _ | refine blk_drew ?_ | refine blk_alloc ?_ _)); exact BK890.out) hb)
            have n6_ := Aside0.mk (blk_below (g := gb894) (o := .cells #[.slice Ao26 t891.length co26] 58 (0, 0)) (by (with_reducible repeat (first | refine blk_drewN ?_ _ | refine blk_drew ?_ | refine blk_alloc ?_ _)); exact BK894.out) hb)
            have n7_ := Aside0.mk (blk_below (g := gb900) (o := .cells #[.int .i64 t895, .slice Ao36 t896.length co36] 28 (0, 0)) (by (with_reducible repeat (first | refine blk_drewN ?_ _ | refine blk_drew ?_ | refine blk_alloc ?_ _)); exact BK900.out) hb)
            have n8_ := Aside0.mk (below_step (by repeat (first | (with_reducible first | exact HB.out | apply below_alloc | apply pw_below_drewN | apply below_drew1 | refine below_set ?_ GE880.out | refine below_set ?_ GE890.out | refine below_set ?_ GE894.out | refine below_set ?_ GE900.out) | exact HB.out)) hb)
            clear HO_891001
            clear HO_895000
            clear HO_901001
            clear BK880
            clear BK890
            clear BK894
            clear BK900
            clear HB
            have HO_891001 := n0_
            have HO_895000 := n1_
            have HO_901001 := n2_
            have HO904 := n3_
            have BK880 := n4_
            have BK890 := n5_
            have BK894 := n6_
            have BK900 := n7_
            have HB := n8_
            clear n0_ n1_ n2_ n3_ n4_ n5_ n6_ n7_ n8_
            (try clear hb)
            (try clear hb2)
            (try clear hk)
            (try clear hi)
            (try clear ho0)
            obtain ⟨Ao63, co63, eo63⟩ := Kd.R_slice HO904.out
            (first | subst eo63 | (injection eo63 with f1_ f2_ f3_; have f4_ := f1_.symm; have f5_ := f3_.symm; clear f1_ f2_ f3_; subst f4_; subst f5_))
            refine hK.out _ _ ⟨(blk_cell BK894.out 0).trans rfl, (blk_cell BK880.out 0).trans rfl⟩ (fun hHeld => ?_)
            clear hK K
            refine norm_ (a' := ?_) ?_ ?_
            rotate_left
            · show Act.put _ (some 43) _ = _
              simp only [Act.put, List.setIfInBounds_toArray, List.set_cons_zero, List.set_cons_succ, i64_w, i32_w]
              rfl
            refine one_ (i := 3) (N := some 44) #[true, true, true, true, false] rfl rfl (by kernel_rfl) (by decide) (fun K hK => ?_)
            refine goes_ Try.func47 (by kernel_rfl) rfl #[.agg #[.slice Ao26 t891.length co26], .agg #[.slice Ao63 t902.length co63]] (by rfl) rfl rfl (by (try simp only [List.map_toArray, List.map_cons, List.map_nil]); first | done | rfl | (simp only [List.length_drop, List.length_take]; rfl)) ?_
            with_reducible refine (laws_eqNet.calls kj10 _ _ t891 _ _ t902 true _ ?side1 ?side2 ?side3 ?side4 A57.out).mono ?_
            (case side1 => repeat (first | exact (Kd.R_reads' HO_895000.out).2.2 | (with_reducible refine Kd.C_alloc ?_ _) | (with_reducible refine Kd.C_drewN ?_ _) | (with_reducible refine Kd.C_drew ?_)))
            (case side2 => exact (Kd.R_reads' HO_895000.out).2.1)
            (case side3 => repeat (first | exact (Kd.R_reads' HO904.out).2.2 | (with_reducible refine Kd.C_alloc ?_ _) | (with_reducible refine Kd.C_drewN ?_ _) | (with_reducible refine Kd.C_drew ?_)))
            (case side4 => exact (Kd.R_reads' HO904.out).2.1)
            rintro e w64 ⟨rfl, hb⟩
            refine ⟨_, rfl, ?_⟩
            have n0_ := Aside0.mk (Kd.R_below (by (with_reducible repeat (first | apply Kd.R_alloc | apply Kd.R_drewN | apply Kd.R_drew)); exact HO_891001.out) hb)
            have n1_ := Aside0.mk (Kd.R_below (by (with_reducible repeat (first | apply Kd.R_alloc | apply Kd.R_drewN | apply Kd.R_drew)); exact HO_895000.out) hb)
            have n2_ := Aside0.mk (Kd.R_below (by (with_reducible repeat (first | apply Kd.R_alloc | apply Kd.R_drewN | apply Kd.R_drew)); exact HO_901001.out) hb)
            have n3_ := Aside0.mk (Kd.R_below (by (with_reducible repeat (first | apply Kd.R_alloc | apply Kd.R_drewN | apply Kd.R_drew)); exact HO904.out) hb)
            have n4_ := Aside0.mk (blk_below (g := gb880) (o := .cells #[.slice A0_0 l0_0.length c0_0] 55 (0, 0)) (by (with_reducible repeat (first | refine blk_drewN ?_ _ | refine blk_drew ?_ | refine blk_alloc ?_ _)); exact BK880.out) hb)
            have n5_ := Aside0.mk (blk_below (g := gb890) (o := .cells #[.int .i64 t885, .slice Ao22 t886.length co22] 28 (0, 0)) (by (with_reducible repeat (first | refine blk_drewN ?_ _ | refine blk_drew ?_ | refine blk_alloc ?_ _)); exact BK890.out) hb)
            have n6_ := Aside0.mk (blk_below (g := gb894) (o := .cells #[.slice Ao26 t891.length co26] 58 (0, 0)) (by (with_reducible repeat (first | refine blk_drewN ?_ _ | refine blk_drew ?_ | refine blk_alloc ?_ _)); exact BK894.out) hb)
            have n7_ := Aside0.mk (blk_below (g := gb900) (o := .cells #[.int .i64 t895, .slice Ao36 t896.length co36] 28 (0, 0)) (by (with_reducible repeat (first | refine blk_drewN ?_ _ | refine blk_drew ?_ | refine blk_alloc ?_ _)); exact BK900.out) hb)
            have n8_ := Aside0.mk (below_step (by repeat (first | (with_reducible first | exact HB.out | apply below_alloc | apply pw_below_drewN | apply below_drew1 | refine below_set ?_ GE880.out | refine below_set ?_ GE890.out | refine below_set ?_ GE894.out | refine below_set ?_ GE900.out) | exact HB.out)) hb)
            clear HO_891001
            clear HO_895000
            clear HO_901001
            clear HO904
            clear BK880
            clear BK890
            clear BK894
            clear BK900
            clear HB
            have HO_891001 := n0_
            have HO_895000 := n1_
            have HO_901001 := n2_
            have HO904 := n3_
            have BK880 := n4_
            have BK890 := n5_
            have BK894 := n6_
            have BK900 := n7_
            have HB := n8_
            clear n0_ n1_ n2_ n3_ n4_ n5_ n6_ n7_ n8_
            (try clear hb)
            (try clear hb2)
            (try clear hk)
            (try clear hi)
            refine hK.out _ _ ⟨(blk_cell BK894.out 0).trans rfl, (blk_cell BK880.out 0).trans rfl⟩ (fun hHeld => ?_)
            clear hK K
            refine norm_ (a' := ?_) ?_ ?_
            rotate_left
            · show Act.put _ (some 44) _ = _
              simp only [Act.put, List.setIfInBounds_toArray, List.set_cons_zero, List.set_cons_succ, i64_w, i32_w]
              rfl
            refine pure_ (i := 4) (N := some 45) (v := ?_) (a' := ?_) #[true, true, true, true, true] rfl rfl (by kernel_rfl) (fun _ _ _ h => h) (Or.inl ⟨by rfl, ?_⟩) ?_ ?_
            rotate_left
            · intro w'
              go_simp
              with_reducible rfl
            rotate_left
            · simp only [Act.put, List.setIfInBounds_toArray, List.set_cons_zero, List.set_cons_succ, i64_w, i32_w]
              rfl
            refine done_ (by kernel_rfl) ?_
            have hnb65 := NB894_880.out
            have hnc65 := NB880_894.out
            have hnb66 := NB894_890.out
            have hnc66 := NB890_894.out
            have hnb67 := NB894_900.out
            have hnc67 := NB900_894.out
            have hcz68_0 : w64.cell? ⟨gb894, 0, none⟩ = some (.slice Ao26 t891.length co26) := (blk_cell BK894.out 0).trans rfl
            have hfz68_0 := blk_frozen BK894.out 0
            go_upto_region 14 with (first | ((with_reducible refine gate_callee (f := 48) rfl ?_); refine goesL_ (some 48) rfl rfl Try.func48 (by kernel_rfl) rfl #[.agg #[.slice Ao26 t891.length co26], .int .i64 1] rfl (by (try simp only [List.map_toArray, List.map_cons, List.map_nil]); first | done | rfl | (simp only [List.length_drop, List.length_take]; rfl)) ?_; (with_reducible refine (laws_markNet.calls kj10 (fun k_ => some k_ = (.slice Ao26 t891.length co26 : Value).ownBlock) (.slice Ao26 t891.length co26) t891 1 t906 t907 w _ ?side1 ?side2 A59.out).mono ?_); (case side1 => repeat (first | (with_reducible first | exact HB.out | apply below_alloc | apply pw_below_drewN | apply below_drew1 | refine below_set ?_ GE880.out | refine below_set ?_ GE890.out | refine below_set ?_ GE894.out | refine below_set ?_ GE900.out) | exact HB.out)); (case side2 => exact Kd.R_tight rfl HO_895000.out); rintro e w69 ⟨rfl, hy0, hb, hkp⟩; refine ⟨_, rfl, ?_⟩; have n0_ := Aside0.mk (Kd.R_mono (ok' := fun k_ => some k_ ≠ (.slice Ao26 t891.length co26 : Value).ownBlock ∧ some k_ ≠ (.slice Ao36 t896.length co36 : Value).ownBlock ∧ some k_ ≠ (.slice Ao63 t902.length co63 : Value).ownBlock) (Kd.R_keptB (HO_891001.out) hkp (fun k_ hk_ hs_ => (hk_.1.1) hs_)) (fun k_ hk_ => ⟨hk_.1.1.1, hk_.1.1.2, hk_.1.2⟩)); have n1_ := Aside0.mk (Kd.R_reok rfl hy0 (fun k_ e_ => HO_895000.out.1 k_ e_)); have n2_ := Aside0.mk (Kd.R_mono (ok' := fun k_ => some k_ ≠ (.slice Ao22 t886.length co22 : Value).ownBlock ∧ some k_ ≠ (.slice Ao26 t891.length co26 : Value).ownBlock ∧ some k_ ≠ (.slice Ao63 t902.length co63 : Value).ownBlock) (Kd.R_keptB (HO_901001.out) hkp (fun k_ hk_ hs_ => (hk_.1.2) hs_)) (fun k_ hk_ => ⟨hk_.1.1.1, hk_.1.1.2, hk_.1.2⟩)); have n3_ := Aside0.mk (blk_kept (by (with_reducible repeat (first | refine blk_drewN ?_ _ | refine blk_drew ?_ | refine blk_alloc ?_ _)); exact BK880.out) hkp (fun hs_ => (fun e_ => (Kd.R_ne HO_895000.out BK880.out (by decide)) e_) hs_)); have n4_ := Aside0.mk (blk_kept (by (with_reducible repeat (first | refine blk_drewN ?_ _ | refine blk_drew ?_ | refine blk_alloc ?_ _)); exact BK890.out) hkp (fun hs_ => (fun e_ => (Kd.R_ne HO_895000.out BK890.out (by decide)) e_) hs_)); have n5_ := Aside0.mk (blk_kept (by (with_reducible repeat (first | refine blk_drewN ?_ _ | refine blk_drew ?_ | refine blk_alloc ?_ _)); exact BK894.out) hkp (fun hs_ => (fun e_ => (Kd.R_ne HO_895000.out BK894.out (by decide)) e_) hs_)); have n6_ := Aside0.mk (blk_kept (by (with_reducible repeat (first | refine blk_drewN ?_ _ | refine blk_drew ?_ | refine blk_alloc ?_ _)); exact BK900.out) hkp (fun hs_ => (fun e_ => (Kd.R_ne HO_895000.out BK900.out (by decide)) e_) hs_)); have n7_ := Aside0.mk (Kd.R_mono (ok' := fun k_ => some k_ ≠ (.slice Ao22 t886.length co22 : Value).ownBlock ∧ some k_ ≠ (.slice Ao26 t891.length co26 : Value).ownBlock ∧ some k_ ≠ (.slice Ao36 t896.length co36 : Value).ownBlock) (Kd.R_keptB (HO904.out) hkp (fun k_ hk_ hs_ => (hk_.1.2) hs_)) (fun k_ hk_ => ⟨hk_.1.1.1.2, hk_.1.1.2, hk_.1.2⟩)); have n8_ := Aside0.mk (hb); clear HO_891001; clear HO_895000; clear HO_901001; clear BK880; clear BK890; clear BK894; clear BK900; clear HO904; clear HB; have HO_891001 := n0_; have HO_895000 := n1_; have HO_901001 := n2_; have BK880 := n3_; have BK890 := n4_; have BK894 := n5_; have BK900 := n6_; have HO904 := n7_; have HB := n8_; clear n0_ n1_ n2_ n3_ n4_ n5_ n6_ n7_ n8_; (try clear hb); (try clear hkp); (try clear hy0)))
            (try simp only [Act.put, List.setIfInBounds_toArray, List.set_cons_zero, List.set_cons_succ])
            go_cut [61] (fun v61 wc => ∃ (kq : Nat) (x61_59 : Bool), v61 = .bool x61_59 ∧ Aside0 (laws_FnExactChordalSpace.j1 kq t889 x61_59 l0_0 t885 t886 t895 t896 = some r) ∧ Aside0 (kq ≤ kj10) ∧ Aside0 (Kd.R (Kd.int .i64) 3 wc w.heap.size (fun k_ => some k_ ≠ ((.slice Ao26 t891.length co26) : Value).ownBlock ∧ some k_ ≠ ((.slice Ao36 t896.length co36) : Value).ownBlock) (.slice Ao22 t886.length co22) t886) ∧ Aside0 (Kd.R (Kd.int .i64) 3 wc w.heap.size (fun k_ => some k_ ≠ ((.slice Ao22 t886.length co22) : Value).ownBlock ∧ some k_ ≠ ((.slice Ao36 t896.length co36) : Value).ownBlock) (.slice Ao26 t891.length co26) t907) ∧ Aside0 (Kd.R (Kd.int .i64) 3 wc w.heap.size (fun k_ => some k_ ≠ ((.slice Ao22 t886.length co22) : Value).ownBlock ∧ some k_ ≠ ((.slice Ao26 t891.length co26) : Value).ownBlock) (.slice Ao36 t896.length co36) t896) ∧ Aside0 (wc.heap[gb880]? = some (.cells #[(.slice A0_0 l0_0.length c0_0)] 55 (0, 0))) ∧ Aside0 (wc.heap[gb890]? = some (.cells #[.int .i64 t885, (.slice Ao22 t886.length co22)] 28 (0, 0))) ∧ Aside0 (wc.heap[gb894]? = some (.cells #[(.slice Ao26 t891.length co26)] 58 (0, 0))) ∧ Aside0 (wc.heap[gb900]? = some (.cells #[.int .i64 t895, (.slice Ao36 t896.length co36)] 28 (0, 0))) ∧ Aside0 (Below w.heap.size w wc))
            case first =>
              have H := HC60.out
              clear HC60
              by_cases c70 : t906 < 0
              · rw [if_pos c70] at H
                have c70b0 : decide (t906 < 0) = true := decide_eq_true c70
                clear c70
                (first | rw [c70b0] | (simp only [i64_w, i32_w]; rw [c70b0]) | skip)
                have H' := Aside0.mk H
                clear H
                go_wp2
                go_meet
                case rel => exact ⟨_, (true), (by first | rfl | (simp; done) | (simp [*]; done)), H', ⟨by have := HJ10.out; first | omega | exact Nat.le_refl _⟩, ⟨by (with_reducible repeat (first | apply Kd.R_alloc | apply Kd.R_drewN | apply Kd.R_drew)); exact Kd.R_mono HO_891001.out (fun _ hk => ⟨hk.1, hk.2.1⟩)⟩, ⟨by (with_reducible repeat (first | apply Kd.R_alloc | apply Kd.R_drewN | apply Kd.R_drew)); exact Kd.R_mono HO_895000.out (fun _ hk => ⟨hk.1.1, hk.1.2⟩)⟩, ⟨by (with_reducible repeat (first | apply Kd.R_alloc | apply Kd.R_drewN | apply Kd.R_drew)); exact Kd.R_mono HO_901001.out (fun _ hk => ⟨hk.1, hk.2.1⟩)⟩, ⟨by (with_reducible repeat (first | refine blk_drewN ?_ _ | refine blk_drew ?_ | refine blk_alloc ?_ _)); exact BK880.out⟩, ⟨by (with_reducible repeat (first | refine blk_drewN ?_ _ | refine blk_drew ?_ | refine blk_alloc ?_ _)); exact BK890.out⟩, ⟨by (with_reducible repeat (first | refine blk_drewN ?_ _ | refine blk_drew ?_ | refine blk_alloc ?_ _)); exact BK894.out⟩, ⟨by (with_reducible repeat (first | refine blk_drewN ?_ _ | refine blk_drew ?_ | refine blk_alloc ?_ _)); exact BK900.out⟩, ⟨by repeat (first | (with_reducible first | exact HB.out | apply below_alloc | apply pw_below_drewN | apply below_drew1 | refine below_set ?_ GE880.out | refine below_set ?_ GE890.out | refine below_set ?_ GE894.out | refine below_set ?_ GE900.out) | exact HB.out)⟩⟩
              · rw [if_neg c70] at H
                have c70b0 : decide (t906 < 0) = false := decide_eq_false c70
                clear c70
                (first | rw [c70b0] | (simp only [i64_w, i32_w]; rw [c70b0]) | skip)
                replace H := Option.bind_eq_some_iff.mp H
                obtain ⟨t908, A710, H⟩ := H
                replace H : (if t908 = true then (laws_FnExactChordalSpace.j1 kj10 t889 (t899 != t889) l0_0 t885 t886 t895 t896) else (laws_FnExactChordalSpace.j1 kj10 t889 true l0_0 t885 t886 t895 t896)) = some r := H
                have A71 := Aside0.mk A710
                clear A710
                by_cases c72 : t908 = true
                · subst c72
                  have H1 : (laws_FnExactChordalSpace.j1 kj10 t889 (t899 != t889) l0_0 t885 t886 t895 t896) = some r := by rw [if_pos rfl] at H; exact H
                  clear H
                  have H := H1
                  clear H1
                  have H' := Aside0.mk H
                  clear H
                  have hnb73 := NB900_880.out
                  have hnc73 := NB880_900.out
                  have hnb74 := NB900_890.out
                  have hnc74 := NB890_900.out
                  have hnb75 := NB900_894.out
                  have hnc75 := NB894_900.out
                  have hcz76_0 : w69.cell? ⟨gb900, 0, none⟩ = some (.int .i64 t895) := (blk_cell BK900.out 0).trans rfl
                  have hcz76_1 : w69.cell? ⟨gb900, 1, none⟩ = some (.slice Ao36 t896.length co36) := (blk_cell BK900.out 1).trans rfl
                  have hfz76_0 := blk_frozen BK900.out 0
                  have hfz76_1 := blk_frozen BK900.out 1
                  have hnb77 := NB890_880.out
                  have hnc77 := NB880_890.out
                  have hnb78 := NB890_894.out
                  have hnc78 := NB894_890.out
                  have hcz79_0 : w69.cell? ⟨gb890, 0, none⟩ = some (.int .i64 t885) := (blk_cell BK890.out 0).trans rfl
                  have hcz79_1 : w69.cell? ⟨gb890, 1, none⟩ = some (.slice Ao22 t886.length co22) := (blk_cell BK890.out 1).trans rfl
                  have hfz79_0 := blk_frozen BK890.out 0
                  have hfz79_1 := blk_frozen BK890.out 1
                  go_wp2_with (first | (go_at_call 19; (with_reducible refine (laws_eqSpace.calls kj10 t895 _ _ t896 t885 _ _ t886 true _ ?side1 ?side2 ?side3 ?side4 A71.out).mono ?_); (case side1 => repeat (first | exact (Kd.R_reads' HO_901001.out).2.2 | (with_reducible refine Kd.C_alloc ?_ _) | (with_reducible refine Kd.C_drewN ?_ _) | (with_reducible refine Kd.C_drew ?_))); (case side2 => exact (Kd.R_reads' HO_901001.out).2.1); (case side3 => repeat (first | exact (Kd.R_reads' HO_891001.out).2.2 | (with_reducible refine Kd.C_alloc ?_ _) | (with_reducible refine Kd.C_drewN ?_ _) | (with_reducible refine Kd.C_drew ?_))); (case side4 => exact (Kd.R_reads' HO_891001.out).2.1); rintro e w80 ⟨rfl, hb⟩; have n0_ := Aside0.mk (Kd.R_below (by (with_reducible repeat (first | apply Kd.R_alloc | apply Kd.R_drewN | apply Kd.R_drew)); exact HO_891001.out) hb); have n1_ := Aside0.mk (Kd.R_below (by (with_reducible repeat (first | apply Kd.R_alloc | apply Kd.R_drewN | apply Kd.R_drew)); exact HO_895000.out) hb); have n2_ := Aside0.mk (Kd.R_below (by (with_reducible repeat (first | apply Kd.R_alloc | apply Kd.R_drewN | apply Kd.R_drew)); exact HO_901001.out) hb); have n3_ := Aside0.mk (Kd.R_below (by (with_reducible repeat (first | apply Kd.R_alloc | apply Kd.R_drewN | apply Kd.R_drew)); exact HO904.out) hb); have n4_ := Aside0.mk (blk_below (g := gb880) (o := .cells #[.slice A0_0 l0_0.length c0_0] 55 (0, 0)) (by (with_reducible repeat (first | refine blk_drewN ?_ _ | refine blk_drew ?_ | refine blk_alloc ?_ _)); exact BK880.out) hb); have n5_ := Aside0.mk (blk_below (g := gb890) (o := .cells #[.int .i64 t885, .slice Ao22 t886.length co22] 28 (0, 0)) (by (with_reducible repeat (first | refine blk_drewN ?_ _ | refine blk_drew ?_ | refine blk_alloc ?_ _)); exact BK890.out) hb); have n6_ := Aside0.mk (blk_below (g := gb894) (o := .cells #[.slice Ao26 t891.length co26] 58 (0, 0)) (by (with_reducible repeat (first | refine blk_drewN ?_ _ | refine blk_drew ?_ | refine blk_alloc ?_ _)); exact BK894.out) hb); have n7_ := Aside0.mk (blk_below (g := gb900) (o := .cells #[.int .i64 t895, .slice Ao36 t896.length co36] 28 (0, 0)) (by (with_reducible repeat (first | refine blk_drewN ?_ _ | refine blk_drew ?_ | refine blk_alloc ?_ _)); exact BK900.out) hb); have n8_ := Aside0.mk (below_step (by repeat (first | (with_reducible first | exact HB.out | apply below_alloc | apply pw_below_drewN | apply below_drew1 | refine below_set ?_ GE880.out | refine below_set ?_ GE890.out | refine below_set ?_ GE894.out | refine below_set ?_ GE900.out) | exact HB.out)) hb); clear HO_891001; clear HO_895000; clear HO_901001; clear HO904; clear BK880; clear BK890; clear BK894; clear BK900; clear HB; have HO_891001 := n0_; have HO_895000 := n1_; have HO_901001 := n2_; have HO904 := n3_; have BK880 := n4_; have BK890 := n5_; have BK894 := n6_; have BK900 := n7_; have HB := n8_; clear n0_ n1_ n2_ n3_ n4_ n5_ n6_ n7_ n8_; (try clear hb); (try clear hb2); (try clear hk); (try clear hi)))
                  go_meet
                  case rel => exact ⟨_, ((t899 != t889)), (by first | rfl | (simp; done) | (simp [*]; done)), H', ⟨by have := HJ10.out; first | omega | exact Nat.le_refl _⟩, ⟨by (with_reducible repeat (first | apply Kd.R_alloc | apply Kd.R_drewN | apply Kd.R_drew)); exact Kd.R_mono HO_891001.out (fun _ hk => ⟨hk.1, hk.2.1⟩)⟩, ⟨by (with_reducible repeat (first | apply Kd.R_alloc | apply Kd.R_drewN | apply Kd.R_drew)); exact Kd.R_mono HO_895000.out (fun _ hk => ⟨hk.1.1, hk.1.2⟩)⟩, ⟨by (with_reducible repeat (first | apply Kd.R_alloc | apply Kd.R_drewN | apply Kd.R_drew)); exact Kd.R_mono HO_901001.out (fun _ hk => ⟨hk.1, hk.2.1⟩)⟩, ⟨by (with_reducible repeat (first | refine blk_drewN ?_ _ | refine blk_drew ?_ | refine blk_alloc ?_ _)); exact BK880.out⟩, ⟨by (with_reducible repeat (first | refine blk_drewN ?_ _ | refine blk_drew ?_ | refine blk_alloc ?_ _)); exact BK890.out⟩, ⟨by (with_reducible repeat (first | refine blk_drewN ?_ _ | refine blk_drew ?_ | refine blk_alloc ?_ _)); exact BK894.out⟩, ⟨by (with_reducible repeat (first | refine blk_drewN ?_ _ | refine blk_drew ?_ | refine blk_alloc ?_ _)); exact BK900.out⟩, ⟨by repeat (first | (with_reducible first | exact HB.out | apply below_alloc | apply pw_below_drewN | apply below_drew1 | refine below_set ?_ GE880.out | refine below_set ?_ GE890.out | refine below_set ?_ GE894.out | refine below_set ?_ GE900.out) | exact HB.out)⟩⟩
                · replace c72 := Bool.eq_false_iff.mpr c72
                  subst c72
                  have H1 : (laws_FnExactChordalSpace.j1 kj10 t889 true l0_0 t885 t886 t895 t896) = some r := by rw [if_neg (show ¬ (false = true) by decide)] at H; exact H
                  clear H
                  have H := H1
                  clear H1
                  have H' := Aside0.mk H
                  clear H
                  have hnb81 := NB900_880.out
                  have hnc81 := NB880_900.out
                  have hnb82 := NB900_890.out
                  have hnc82 := NB890_900.out
                  have hnb83 := NB900_894.out
                  have hnc83 := NB894_900.out
                  have hcz84_0 : w69.cell? ⟨gb900, 0, none⟩ = some (.int .i64 t895) := (blk_cell BK900.out 0).trans rfl
                  have hcz84_1 : w69.cell? ⟨gb900, 1, none⟩ = some (.slice Ao36 t896.length co36) := (blk_cell BK900.out 1).trans rfl
                  have hfz84_0 := blk_frozen BK900.out 0
                  have hfz84_1 := blk_frozen BK900.out 1
                  have hnb85 := NB890_880.out
                  have hnc85 := NB880_890.out
                  have hnb86 := NB890_894.out
                  have hnc86 := NB894_890.out
                  have hcz87_0 : w69.cell? ⟨gb890, 0, none⟩ = some (.int .i64 t885) := (blk_cell BK890.out 0).trans rfl
                  have hcz87_1 : w69.cell? ⟨gb890, 1, none⟩ = some (.slice Ao22 t886.length co22) := (blk_cell BK890.out 1).trans rfl
                  have hfz87_0 := blk_frozen BK890.out 0
                  have hfz87_1 := blk_frozen BK890.out 1
                  go_wp2_with (first | (go_at_call 19; (with_reducible refine (laws_eqSpace.calls kj10 t895 _ _ t896 t885 _ _ t886 false _ ?side1 ?side2 ?side3 ?side4 A71.out).mono ?_); (case side1 => repeat (first | exact (Kd.R_reads' HO_901001.out).2.2 | (with_reducible refine Kd.C_alloc ?_ _) | (with_reducible refine Kd.C_drewN ?_ _) | (with_reducible refine Kd.C_drew ?_))); (case side2 => exact (Kd.R_reads' HO_901001.out).2.1); (case side3 => repeat (first | exact (Kd.R_reads' HO_891001.out).2.2 | (with_reducible refine Kd.C_alloc ?_ _) | (with_reducible refine Kd.C_drewN ?_ _) | (with_reducible refine Kd.C_drew ?_))); (case side4 => exact (Kd.R_reads' HO_891001.out).2.1); rintro e w88 ⟨rfl, hb⟩; have n0_ := Aside0.mk (Kd.R_below (by (with_reducible repeat (first | apply Kd.R_alloc | apply Kd.R_drewN | apply Kd.R_drew)); exact HO_891001.out) hb); have n1_ := Aside0.mk (Kd.R_below (by (with_reducible repeat (first | apply Kd.R_alloc | apply Kd.R_drewN | apply Kd.R_drew)); exact HO_895000.out) hb); have n2_ := Aside0.mk (Kd.R_below (by (with_reducible repeat (first | apply Kd.R_alloc | apply Kd.R_drewN | apply Kd.R_drew)); exact HO_901001.out) hb); have n3_ := Aside0.mk (Kd.R_below (by (with_reducible repeat (first | apply Kd.R_alloc | apply Kd.R_drewN | apply Kd.R_drew)); exact HO904.out) hb); have n4_ := Aside0.mk (blk_below (g := gb880) (o := .cells #[.slice A0_0 l0_0.length c0_0] 55 (0, 0)) (by (with_reducible repeat (first | refine blk_drewN ?_ _ | refine blk_drew ?_ | refine blk_alloc ?_ _)); exact BK880.out) hb); have n5_ := Aside0.mk (blk_below (g := gb890) (o := .cells #[.int .i64 t885, .slice Ao22 t886.length co22] 28 (0, 0)) (by (with_reducible repeat (first | refine blk_drewN ?_ _ | refine blk_drew ?_ | refine blk_alloc ?_ _)); exact BK890.out) hb); have n6_ := Aside0.mk (blk_below (g := gb894) (o := .cells #[.slice Ao26 t891.length co26] 58 (0, 0)) (by (with_reducible repeat (first | refine blk_drewN ?_ _ | refine blk_drew ?_ | refine blk_alloc ?_ _)); exact BK894.out) hb); have n7_ := Aside0.mk (blk_below (g := gb900) (o := .cells #[.int .i64 t895, .slice Ao36 t896.length co36] 28 (0, 0)) (by (with_reducible repeat (first | refine blk_drewN ?_ _ | refine blk_drew ?_ | refine blk_alloc ?_ _)); exact BK900.out) hb); have n8_ := Aside0.mk (below_step (by repeat (first | (with_reducible first | exact HB.out | apply below_alloc | apply pw_below_drewN | apply below_drew1 | refine below_set ?_ GE880.out | refine below_set ?_ GE890.out | refine below_set ?_ GE894.out | refine below_set ?_ GE900.out) | exact HB.out)) hb); clear HO_891001; clear HO_895000; clear HO_901001; clear HO904; clear BK880; clear BK890; clear BK894; clear BK900; clear HB; have HO_891001 := n0_; have HO_895000 := n1_; have HO_901001 := n2_; have HO904 := n3_; have BK880 := n4_; have BK890 := n5_; have BK894 := n6_; have BK900 := n7_; have HB := n8_; clear n0_ n1_ n2_ n3_ n4_ n5_ n6_ n7_ n8_; (try clear hb); (try clear hb2); (try clear hk); (try clear hi)))
                  go_meet
                  case rel => exact ⟨_, (true), (by first | rfl | (simp; done) | (simp [*]; done)), H', ⟨by have := HJ10.out; first | omega | exact Nat.le_refl _⟩, ⟨by (with_reducible repeat (first | apply Kd.R_alloc | apply Kd.R_drewN | apply Kd.R_drew)); exact Kd.R_mono HO_891001.out (fun _ hk => ⟨hk.1, hk.2.1⟩)⟩, ⟨by (with_reducible repeat (first | apply Kd.R_alloc | apply Kd.R_drewN | apply Kd.R_drew)); exact Kd.R_mono HO_895000.out (fun _ hk => ⟨hk.1.1, hk.1.2⟩)⟩, ⟨by (with_reducible repeat (first | apply Kd.R_alloc | apply Kd.R_drewN | apply Kd.R_drew)); exact Kd.R_mono HO_901001.out (fun _ hk => ⟨hk.1, hk.2.1⟩)⟩, ⟨by (with_reducible repeat (first | refine blk_drewN ?_ _ | refine blk_drew ?_ | refine blk_alloc ?_ _)); exact BK880.out⟩, ⟨by (with_reducible repeat (first | refine blk_drewN ?_ _ | refine blk_drew ?_ | refine blk_alloc ?_ _)); exact BK890.out⟩, ⟨by (with_reducible repeat (first | refine blk_drewN ?_ _ | refine blk_drew ?_ | refine blk_alloc ?_ _)); exact BK894.out⟩, ⟨by (with_reducible repeat (first | refine blk_drewN ?_ _ | refine blk_drew ?_ | refine blk_alloc ?_ _)); exact BK900.out⟩, ⟨by repeat (first | (with_reducible first | exact HB.out | apply below_alloc | apply pw_below_drewN | apply below_drew1 | refine below_set ?_ GE880.out | refine below_set ?_ GE890.out | refine below_set ?_ GE894.out | refine below_set ?_ GE900.out) | exact HB.out)⟩⟩
            case rest =>
              clear HC60
              try clear c1
              try clear c2
              try clear p2
              try clear c3
              try clear c3b0
              try clear c4
              try clear c5
              try clear c6
              try clear c7
              try clear c8
              try clear c10
              try clear c19
              try clear c20
              try clear c27
              try clear c28
              try clear c32
              try clear c33
              try clear c34
              try clear c38
              try clear c39
              try clear c40
              try clear c41
              try clear c43
              try clear c44
              try clear c45
              try clear c46
              try clear c47
              try clear c48
              try clear c49
              try clear c51
              try clear c52
              try clear c55
              try clear c58
              try clear c65
              try clear c66
              try clear c67
              try clear c70
              try clear c70b0
              try clear c72
              try clear c73
              try clear c74
              try clear c75
              try clear c77
              try clear c78
              try clear c81
              try clear c82
              try clear c83
              try clear c85
              try clear c86
              try clear hcz13_0
              try clear hcz15_0
              try clear hcz21_0
              try clear hcz21_1
              try clear hcz23_0
              try clear hcz29_0
              try clear hcz35_0
              try clear hcz35_1
              try clear hcz42_0
              try clear hcz42_1
              try clear hcz45_0
              try clear hcz45_1
              try clear hcz50_0
              try clear hcz50_1
              try clear hcz53_0
              try clear hcz53_1
              try clear hcz5_0
              try clear hcz68_0
              try clear hcz76_0
              try clear hcz76_1
              try clear hcz79_0
              try clear hcz79_1
              try clear hcz84_0
              try clear hcz84_1
              try clear hcz87_0
              try clear hcz87_1
              try clear hfz13_0
              try clear hfz15_0
              try clear hfz21_0
              try clear hfz21_1
              try clear hfz23_0
              try clear hfz29_0
              try clear hfz35_0
              try clear hfz35_1
              try clear hfz42_0
              try clear hfz42_1
              try clear hfz45_0
              try clear hfz45_1
              try clear hfz50_0
              try clear hfz50_1
              try clear hfz53_0
              try clear hfz53_1
              try clear hfz5_0
              try clear hfz68_0
              try clear hfz76_0
              try clear hfz76_1
              try clear hfz79_0
              try clear hfz79_1
              try clear hfz84_0
              try clear hfz84_1
              try clear hfz87_0
              try clear hfz87_1
              try clear p2
              obtain ⟨kq, x61_59, rfl, HA, HJ59, HO_891001, HO_895000, HO_901001, BK880, BK890, BK894, BK900, HB⟩ := hcut
              have hl895000_59 := (Kd.R_reads' HO_895000.out).1
              rw [hl895000_59] at HO_895000
              (try simp only [hl895000_59])
              (try simp only [hl895000_59] at BK880)
              (try simp only [hl895000_59] at BK890)
              (try simp only [hl895000_59] at BK894)
              (try simp only [hl895000_59] at BK900)
              (try simp only [hl895000_59] at HO_891001)
              (try simp only [hl895000_59] at HO_901001)
              cases kq with
              | zero => exact absurd HA.out (by simp [laws_FnExactChordalSpace.j1])
              | succ kj59 =>
                have H := HA.out
                clear HA
                simp only [laws_FnExactChordalSpace.j1] at H
                by_cases c89 : x61_59 = true
                · subst c89
                  have H1 : (some false) = some r := by rw [if_pos rfl] at H; exact H
                  clear H
                  have H := H1
                  clear H1
                  obtain rfl := Option.some.inj H
                  go_wp2
                  go_ret
                  exact ⟨by first | rfl | (simp [errW_none, errW_some] <;> rfl) | (simp [*, errW_none, errW_some] <;> rfl), by repeat (first | (with_reducible first | exact HB.out | apply below_alloc | apply pw_below_drewN | apply below_drew1 | refine below_set ?_ GE880.out | refine below_set ?_ GE890.out | refine below_set ?_ GE894.out | refine below_set ?_ GE900.out) | exact HB.out)⟩
                · replace c89 := Bool.eq_false_iff.mpr c89
                  subst c89
                  have H1 : ((laws_markSpace.f kj59 t895 t896 1).bind fun bt909 => ((laws_heldSpace.f kj59 t895 bt909.2 1).bind fun t911 => (if t911 < 0 then (some false) else (if t911 = bt909.1 then ((laws_toNet.f kj59 l0_0).bind fun t912 => ((impl_ChordalSpace.f kj59 t912).bind fun bt915 => ((laws_eqSpace.f kj59 bt915.1 bt915.2.1 t885 t886).bind fun t921 => (if t921 = true then (laws_FnExactChordalSpace.j2 kj59 bt909.1 (bt915.2.2 != t889) t895 bt909.2) else (laws_FnExactChordalSpace.j2 kj59 bt909.1 true t895 bt909.2))))) else (some false))))) = some r := by rw [if_neg (show ¬ (false = true) by decide)] at H; exact H
                  clear H
                  have H := H1
                  clear H1
                  replace H := Option.bind_eq_some_iff.mp H
                  obtain ⟨⟨t909, t910⟩, A900, H⟩ := H
                  replace H : ((laws_heldSpace.f kj59 t895 t910 1).bind fun t911 => (if t911 < 0 then (some false) else (if t911 = t909 then ((laws_toNet.f kj59 l0_0).bind fun t912 => ((impl_ChordalSpace.f kj59 t912).bind fun bt915 => ((laws_eqSpace.f kj59 bt915.1 bt915.2.1 t885 t886).bind fun t921 => (if t921 = true then (laws_FnExactChordalSpace.j2 kj59 t909 (bt915.2.2 != t889) t895 t910) else (laws_FnExactChordalSpace.j2 kj59 t909 true t895 t910))))) else (some false)))) = some r := H
                  have A90 := Aside0.mk A900
                  clear A900
                  replace H := Option.bind_eq_some_iff.mp H
                  obtain ⟨t911, A910, H⟩ := H
                  replace H : (if t911 < 0 then (some false) else (if t911 = t909 then ((laws_toNet.f kj59 l0_0).bind fun t912 => ((impl_ChordalSpace.f kj59 t912).bind fun bt915 => ((laws_eqSpace.f kj59 bt915.1 bt915.2.1 t885 t886).bind fun t921 => (if t921 = true then (laws_FnExactChordalSpace.j2 kj59 t909 (bt915.2.2 != t889) t895 t910) else (laws_FnExactChordalSpace.j2 kj59 t909 true t895 t910))))) else (some false))) = some r := H
                  have A91 := Aside0.mk A910
                  clear A910
                  by_cases c92 : t911 < 0
                  · rw [if_pos c92] at H
                    have c92b0 : decide (t911 < 0) = true := decide_eq_true c92
                    clear c92
                    obtain rfl := Option.some.inj H
                    have hnb93 := NB900_880.out
                    have hnc93 := NB880_900.out
                    have hnb94 := NB900_890.out
                    have hnc94 := NB890_900.out
                    have hnb95 := NB900_894.out
                    have hnc95 := NB894_900.out
                    have hcz96_0 : wc.cell? ⟨gb900, 0, none⟩ = some (.int .i64 t895) := (blk_cell BK900.out 0).trans rfl
                    have hcz96_1 : wc.cell? ⟨gb900, 1, none⟩ = some (.slice Ao36 t896.length co36) := (blk_cell BK900.out 1).trans rfl
                    have hfz96_0 := blk_frozen BK900.out 0
                    have hfz96_1 := blk_frozen BK900.out 1
                    go_wp2_with (first | ((with_reducible refine gate_callee (f := 25) rfl ?_); refine goesL_ (some 64) rfl rfl Try.func25 (by kernel_rfl) rfl #[.agg #[.int .i64 t895, .slice Ao36 t896.length co36], .int .i64 1] rfl (by (try simp only [List.map_toArray, List.map_cons, List.map_nil]); first | done | rfl | (simp only [List.length_drop, List.length_take]; rfl)) ?_; (with_reducible refine (laws_markSpace.calls kj59 t895 (fun k_ => some k_ = (.slice Ao36 t896.length co36 : Value).ownBlock) (.slice Ao36 t896.length co36) t896 1 t909 t910 w _ ?side1 ?side2 A90.out).mono ?_); (case side1 => repeat (first | (with_reducible first | exact HB.out | apply below_alloc | apply pw_below_drewN | apply below_drew1 | refine below_set ?_ GE880.out | refine below_set ?_ GE890.out | refine below_set ?_ GE894.out | refine below_set ?_ GE900.out) | exact HB.out)); (case side2 => exact Kd.R_tight rfl HO_901001.out); rintro e w97 ⟨rfl, hy0, hb, hkp⟩; refine ⟨_, rfl, ?_⟩; have n0_ := Aside0.mk (Kd.R_mono (ok' := fun k_ => some k_ ≠ (.slice Ao26 t907.length co26 : Value).ownBlock ∧ some k_ ≠ (.slice Ao36 t896.length co36 : Value).ownBlock) (Kd.R_keptB (HO_891001.out) hkp (fun k_ hk_ hs_ => (hk_.2) hs_)) (fun k_ hk_ => ⟨hk_.1.1, hk_.1.2⟩)); have n1_ := Aside0.mk (Kd.R_mono (ok' := fun k_ => some k_ ≠ (.slice Ao22 t886.length co22 : Value).ownBlock ∧ some k_ ≠ (.slice Ao36 t896.length co36 : Value).ownBlock) (Kd.R_keptB (HO_895000.out) hkp (fun k_ hk_ hs_ => (hk_.2) hs_)) (fun k_ hk_ => ⟨hk_.1.1, hk_.1.2⟩)); have n2_ := Aside0.mk (Kd.R_reok rfl hy0 (fun k_ e_ => HO_901001.out.1 k_ e_)); have n3_ := Aside0.mk (blk_kept (by (with_reducible repeat (first | refine blk_drewN ?_ _ | refine blk_drew ?_ | refine blk_alloc ?_ _)); exact BK880.out) hkp (fun hs_ => (fun e_ => (Kd.R_ne HO_901001.out BK880.out (by decide)) e_) hs_)); have n4_ := Aside0.mk (blk_kept (by (with_reducible repeat (first | refine blk_drewN ?_ _ | refine blk_drew ?_ | refine blk_alloc ?_ _)); exact BK890.out) hkp (fun hs_ => (fun e_ => (Kd.R_ne HO_901001.out BK890.out (by decide)) e_) hs_)); have n5_ := Aside0.mk (blk_kept (by (with_reducible repeat (first | refine blk_drewN ?_ _ | refine blk_drew ?_ | refine blk_alloc ?_ _)); exact BK894.out) hkp (fun hs_ => (fun e_ => (Kd.R_ne HO_901001.out BK894.out (by decide)) e_) hs_)); have n6_ := Aside0.mk (blk_kept (by (with_reducible repeat (first | refine blk_drewN ?_ _ | refine blk_drew ?_ | refine blk_alloc ?_ _)); exact BK900.out) hkp (fun hs_ => (fun e_ => (Kd.R_ne HO_901001.out BK900.out (by decide)) e_) hs_)); have n7_ := Aside0.mk (hb); clear HO_891001; clear HO_895000; clear HO_901001; clear BK880; clear BK890; clear BK894; clear BK900; clear HB; have HO_891001 := n0_; have HO_895000 := n1_; have HO_901001 := n2_; have BK880 := n3_; have BK890 := n4_; have BK894 := n5_; have BK900 := n6_; have HB := n7_; clear n0_ n1_ n2_ n3_ n4_ n5_ n6_ n7_; (try clear hb); (try clear hkp); (try clear hy0); have hcz98_0 : w97.cell? ⟨gb900, 0, none⟩ = some (.int .i64 t895) := (blk_cell BK900.out 0).trans rfl; have hcz98_1 : w97.cell? ⟨gb900, 1, none⟩ = some (.slice Ao36 t896.length co36) := (blk_cell BK900.out 1).trans rfl; have hfz98_0 := blk_frozen BK900.out 0; have hfz98_1 := blk_frozen BK900.out 1) | ((with_reducible refine gate_callee (f := 26) rfl ?_); refine goesL_ (some 67) rfl rfl Try.func26 (by kernel_rfl) rfl #[.agg #[.int .i64 t895, .slice Ao36 t910.length co36], .int .i64 1] rfl (by (try simp only [List.map_toArray, List.map_cons, List.map_nil]); first | done | (rw [show t910.length = t896.length from (Kd.R_reads' HO_901001.out).1.symm] <;> rfl) | rfl | (simp only [List.length_drop, List.length_take]; rfl)) ?_; (with_reducible refine (laws_heldSpace.calls kj59 t895 _ _ t910 1 t911 _ ?side1 ?side2 A91.out).mono ?_); (case side1 => repeat (first | exact (Kd.R_reads' HO_901001.out).2.2 | (with_reducible refine Kd.C_alloc ?_ _) | (with_reducible refine Kd.C_drewN ?_ _) | (with_reducible refine Kd.C_drew ?_))); (case side2 => rw [show t910.length = t896.length from (Kd.R_reads' HO_901001.out).1.symm]; exact (Kd.R_reads' HO_901001.out).2.1); rintro e w99 ⟨rfl, hb⟩; refine ⟨_, rfl, ?_⟩; have n0_ := Aside0.mk (Kd.R_below (by (with_reducible repeat (first | apply Kd.R_alloc | apply Kd.R_drewN | apply Kd.R_drew)); exact HO_891001.out) hb); have n1_ := Aside0.mk (Kd.R_below (by (with_reducible repeat (first | apply Kd.R_alloc | apply Kd.R_drewN | apply Kd.R_drew)); exact HO_895000.out) hb); have n2_ := Aside0.mk (Kd.R_below (by (with_reducible repeat (first | apply Kd.R_alloc | apply Kd.R_drewN | apply Kd.R_drew)); exact HO_901001.out) hb); have n3_ := Aside0.mk (blk_below (g := gb880) (o := .cells #[.slice A0_0 l0_0.length c0_0] 55 (0, 0)) (by (with_reducible repeat (first | refine blk_drewN ?_ _ | refine blk_drew ?_ | refine blk_alloc ?_ _)); exact BK880.out) hb); have n4_ := Aside0.mk (blk_below (g := gb890) (o := .cells #[.int .i64 t885, .slice Ao22 t886.length co22] 28 (0, 0)) (by (with_reducible repeat (first | refine blk_drewN ?_ _ | refine blk_drew ?_ | refine blk_alloc ?_ _)); exact BK890.out) hb); have n5_ := Aside0.mk (blk_below (g := gb894) (o := .cells #[.slice Ao26 t907.length co26] 58 (0, 0)) (by (with_reducible repeat (first | refine blk_drewN ?_ _ | refine blk_drew ?_ | refine blk_alloc ?_ _)); exact BK894.out) hb); have n6_ := Aside0.mk (blk_below (g := gb900) (o := .cells #[.int .i64 t895, .slice Ao36 t896.length co36] 28 (0, 0)) (by (with_reducible repeat (first | refine blk_drewN ?_ _ | refine blk_drew ?_ | refine blk_alloc ?_ _)); exact BK900.out) hb); have n7_ := Aside0.mk (below_step (by repeat (first | (with_reducible first | exact HB.out | apply below_alloc | apply pw_below_drewN | apply below_drew1 | refine below_set ?_ GE880.out | refine below_set ?_ GE890.out | refine below_set ?_ GE894.out | refine below_set ?_ GE900.out) | exact HB.out)) hb); clear HO_891001; clear HO_895000; clear HO_901001; clear BK880; clear BK890; clear BK894; clear BK900; clear HB; have HO_891001 := n0_; have HO_895000 := n1_; have HO_901001 := n2_; have BK880 := n3_; have BK890 := n4_; have BK894 := n5_; have BK900 := n6_; have HB := n7_; clear n0_ n1_ n2_ n3_ n4_ n5_ n6_ n7_; (try clear hb); (try clear hb2); (try clear hk); (try clear hi)))
                    go_ret
                    exact ⟨by first | rfl | (simp [errW_none, errW_some] <;> rfl) | (simp [*, errW_none, errW_some] <;> rfl), by repeat (first | (with_reducible first | exact HB.out | apply below_alloc | apply pw_below_drewN | apply below_drew1 | refine below_set ?_ GE880.out | refine below_set ?_ GE890.out | refine below_set ?_ GE894.out | refine below_set ?_ GE900.out) | exact HB.out)⟩
                  · rw [if_neg c92] at H
                    have c92b0 : decide (t911 < 0) = false := decide_eq_false c92
                    clear c92
                    by_cases c100 : t911 = t909
                    · rw [if_pos c100] at H
                      have c100b0 : (t911 == t909) = true := beq_iff_eq.mpr c100
                      have c100b1 : (t911 != t909) = false := bne_eq_false_iff_eq.mpr c100
                      clear c100
                      replace H := Option.bind_eq_some_iff.mp H
                      obtain ⟨t912, A1010, H⟩ := H
                      replace H : ((impl_ChordalSpace.f kj59 t912).bind fun bt915 => ((laws_eqSpace.f kj59 bt915.1 bt915.2.1 t885 t886).bind fun t921 => (if t921 = true then (laws_FnExactChordalSpace.j2 kj59 t909 (bt915.2.2 != t889) t895 t910) else (laws_FnExactChordalSpace.j2 kj59 t909 true t895 t910)))) = some r := H
                      have A101 := Aside0.mk A1010
                      clear A1010
                      replace H := Option.bind_eq_some_iff.mp H
                      obtain ⟨⟨t915, t916, t919⟩, A1020, H⟩ := H
                      replace H : ((laws_eqSpace.f kj59 t915 t916 t885 t886).bind fun t921 => (if t921 = true then (laws_FnExactChordalSpace.j2 kj59 t909 (t919 != t889) t895 t910) else (laws_FnExactChordalSpace.j2 kj59 t909 true t895 t910))) = some r := H
                      have A102 := Aside0.mk A1020
                      clear A1020
                      have HC103 := Aside0.mk H
                      clear H
                      have hnb104 := NB900_880.out
                      have hnc104 := NB880_900.out
                      have hnb105 := NB900_890.out
                      have hnc105 := NB890_900.out
                      have hnb106 := NB900_894.out
                      have hnc106 := NB894_900.out
                      have hcz107_0 : wc.cell? ⟨gb900, 0, none⟩ = some (.int .i64 t895) := (blk_cell BK900.out 0).trans rfl
                      have hcz107_1 : wc.cell? ⟨gb900, 1, none⟩ = some (.slice Ao36 t896.length co36) := (blk_cell BK900.out 1).trans rfl
                      have hfz107_0 := blk_frozen BK900.out 0
                      have hfz107_1 := blk_frozen BK900.out 1
                      go_upto_region 25 with (first | ((with_reducible refine gate_callee (f := 25) rfl ?_); refine goesL_ (some 64) rfl rfl Try.func25 (by kernel_rfl) rfl #[.agg #[.int .i64 t895, .slice Ao36 t896.length co36], .int .i64 1] rfl (by (try simp only [List.map_toArray, List.map_cons, List.map_nil]); first | done | rfl | (simp only [List.length_drop, List.length_take]; rfl)) ?_; (with_reducible refine (laws_markSpace.calls kj59 t895 (fun k_ => some k_ = (.slice Ao36 t896.length co36 : Value).ownBlock) (.slice Ao36 t896.length co36) t896 1 t909 t910 w _ ?side1 ?side2 A90.out).mono ?_); (case side1 => repeat (first | (with_reducible first | exact HB.out | apply below_alloc | apply pw_below_drewN | apply below_drew1 | refine below_set ?_ GE880.out | refine below_set ?_ GE890.out | refine below_set ?_ GE894.out | refine below_set ?_ GE900.out) | exact HB.out)); (case side2 => exact Kd.R_tight rfl HO_901001.out); rintro e w108 ⟨rfl, hy0, hb, hkp⟩; refine ⟨_, rfl, ?_⟩; have n0_ := Aside0.mk (Kd.R_mono (ok' := fun k_ => some k_ ≠ (.slice Ao26 t907.length co26 : Value).ownBlock ∧ some k_ ≠ (.slice Ao36 t896.length co36 : Value).ownBlock) (Kd.R_keptB (HO_891001.out) hkp (fun k_ hk_ hs_ => (hk_.2) hs_)) (fun k_ hk_ => ⟨hk_.1.1, hk_.1.2⟩)); have n1_ := Aside0.mk (Kd.R_mono (ok' := fun k_ => some k_ ≠ (.slice Ao22 t886.length co22 : Value).ownBlock ∧ some k_ ≠ (.slice Ao36 t896.length co36 : Value).ownBlock) (Kd.R_keptB (HO_895000.out) hkp (fun k_ hk_ hs_ => (hk_.2) hs_)) (fun k_ hk_ => ⟨hk_.1.1, hk_.1.2⟩)); have n2_ := Aside0.mk (Kd.R_reok rfl hy0 (fun k_ e_ => HO_901001.out.1 k_ e_)); have n3_ := Aside0.mk (blk_kept (by (with_reducible repeat (first | refine blk_drewN ?_ _ | refine blk_drew ?_ | refine blk_alloc ?_ _)); exact BK880.out) hkp (fun hs_ => (fun e_ => (Kd.R_ne HO_901001.out BK880.out (by decide)) e_) hs_)); have n4_ := Aside0.mk (blk_kept (by (with_reducible repeat (first | refine blk_drewN ?_ _ | refine blk_drew ?_ | refine blk_alloc ?_ _)); exact BK890.out) hkp (fun hs_ => (fun e_ => (Kd.R_ne HO_901001.out BK890.out (by decide)) e_) hs_)); have n5_ := Aside0.mk (blk_kept (by (with_reducible repeat (first | refine blk_drewN ?_ _ | refine blk_drew ?_ | refine blk_alloc ?_ _)); exact BK894.out) hkp (fun hs_ => (fun e_ => (Kd.R_ne HO_901001.out BK894.out (by decide)) e_) hs_)); have n6_ := Aside0.mk (blk_kept (by (with_reducible repeat (first | refine blk_drewN ?_ _ | refine blk_drew ?_ | refine blk_alloc ?_ _)); exact BK900.out) hkp (fun hs_ => (fun e_ => (Kd.R_ne HO_901001.out BK900.out (by decide)) e_) hs_)); have n7_ := Aside0.mk (hb); clear HO_891001; clear HO_895000; clear HO_901001; clear BK880; clear BK890; clear BK894; clear BK900; clear HB; have HO_891001 := n0_; have HO_895000 := n1_; have HO_901001 := n2_; have BK880 := n3_; have BK890 := n4_; have BK894 := n5_; have BK900 := n6_; have HB := n7_; clear n0_ n1_ n2_ n3_ n4_ n5_ n6_ n7_; (try clear hb); (try clear hkp); (try clear hy0); have hcz109_0 : w108.cell? ⟨gb900, 0, none⟩ = some (.int .i64 t895) := (blk_cell BK900.out 0).trans rfl; have hcz109_1 : w108.cell? ⟨gb900, 1, none⟩ = some (.slice Ao36 t896.length co36) := (blk_cell BK900.out 1).trans rfl; have hfz109_0 := blk_frozen BK900.out 0; have hfz109_1 := blk_frozen BK900.out 1) | ((with_reducible refine gate_callee (f := 26) rfl ?_); refine goesL_ (some 67) rfl rfl Try.func26 (by kernel_rfl) rfl #[.agg #[.int .i64 t895, .slice Ao36 t910.length co36], .int .i64 1] rfl (by (try simp only [List.map_toArray, List.map_cons, List.map_nil]); first | done | (rw [show t910.length = t896.length from (Kd.R_reads' HO_901001.out).1.symm] <;> rfl) | rfl | (simp only [List.length_drop, List.length_take]; rfl)) ?_; (with_reducible refine (laws_heldSpace.calls kj59 t895 _ _ t910 1 t911 _ ?side1 ?side2 A91.out).mono ?_); (case side1 => repeat (first | exact (Kd.R_reads' HO_901001.out).2.2 | (with_reducible refine Kd.C_alloc ?_ _) | (with_reducible refine Kd.C_drewN ?_ _) | (with_reducible refine Kd.C_drew ?_))); (case side2 => rw [show t910.length = t896.length from (Kd.R_reads' HO_901001.out).1.symm]; exact (Kd.R_reads' HO_901001.out).2.1); rintro e w110 ⟨rfl, hb⟩; refine ⟨_, rfl, ?_⟩; have n0_ := Aside0.mk (Kd.R_below (by (with_reducible repeat (first | apply Kd.R_alloc | apply Kd.R_drewN | apply Kd.R_drew)); exact HO_891001.out) hb); have n1_ := Aside0.mk (Kd.R_below (by (with_reducible repeat (first | apply Kd.R_alloc | apply Kd.R_drewN | apply Kd.R_drew)); exact HO_895000.out) hb); have n2_ := Aside0.mk (Kd.R_below (by (with_reducible repeat (first | apply Kd.R_alloc | apply Kd.R_drewN | apply Kd.R_drew)); exact HO_901001.out) hb); have n3_ := Aside0.mk (blk_below (g := gb880) (o := .cells #[.slice A0_0 l0_0.length c0_0] 55 (0, 0)) (by (with_reducible repeat (first | refine blk_drewN ?_ _ | refine blk_drew ?_ | refine blk_alloc ?_ _)); exact BK880.out) hb); have n4_ := Aside0.mk (blk_below (g := gb890) (o := .cells #[.int .i64 t885, .slice Ao22 t886.length co22] 28 (0, 0)) (by (with_reducible repeat (first | refine blk_drewN ?_ _ | refine blk_drew ?_ | refine blk_alloc ?_ _)); exact BK890.out) hb); have n5_ := Aside0.mk (blk_below (g := gb894) (o := .cells #[.slice Ao26 t907.length co26] 58 (0, 0)) (by (with_reducible repeat (first | refine blk_drewN ?_ _ | refine blk_drew ?_ | refine blk_alloc ?_ _)); exact BK894.out) hb); have n6_ := Aside0.mk (blk_below (g := gb900) (o := .cells #[.int .i64 t895, .slice Ao36 t896.length co36] 28 (0, 0)) (by (with_reducible repeat (first | refine blk_drewN ?_ _ | refine blk_drew ?_ | refine blk_alloc ?_ _)); exact BK900.out) hb); have n7_ := Aside0.mk (below_step (by repeat (first | (with_reducible first | exact HB.out | apply below_alloc | apply pw_below_drewN | apply below_drew1 | refine below_set ?_ GE880.out | refine below_set ?_ GE890.out | refine below_set ?_ GE894.out | refine below_set ?_ GE900.out) | exact HB.out)) hb); clear HO_891001; clear HO_895000; clear HO_901001; clear BK880; clear BK890; clear BK894; clear BK900; clear HB; have HO_891001 := n0_; have HO_895000 := n1_; have HO_901001 := n2_; have BK880 := n3_; have BK890 := n4_; have BK894 := n5_; have BK900 := n6_; have HB := n7_; clear n0_ n1_ n2_ n3_ n4_ n5_ n6_ n7_; (try clear hb); (try clear hb2); (try clear hk); (try clear hi); have hnb111 := NB880_890.out; have hnc111 := NB890_880.out; have hnb112 := NB880_894.out; have hnc112 := NB894_880.out; have hcz113_0 : w110.cell? ⟨gb880, 0, none⟩ = some (.slice A0_0 l0_0.length c0_0) := (blk_cell BK880.out 0).trans rfl; have hfz113_0 := blk_frozen BK880.out 0) | ((with_reducible refine gate_callee (f := 45) rfl ?_); refine goesL_ (some 75) rfl rfl Try.func45 (by kernel_rfl) rfl #[.agg #[.slice A0_0 l0_0.length c0_0]] rfl (by (try simp only [List.map_toArray, List.map_cons, List.map_nil]); first | done | rfl | (simp only [List.length_drop, List.length_take]; rfl)) ?_; (with_reducible refine (laws_toNet.calls kj59 _ _ l0_0 t912 _ ?side1 ?side2 A101.out).mono ?_); (case side1 => repeat (first | exact (Kd.C_below HR0_0.out HB.out) | (with_reducible refine Kd.C_alloc ?_ _) | (with_reducible refine Kd.C_drewN ?_ _) | (with_reducible refine Kd.C_drew ?_))); (case side2 => exact HC0_0.out); rintro e w114 ⟨v913, rfl, ho0, hb⟩; refine ⟨_, rfl, ?_⟩; have n0_ := Aside0.mk (Kd.R_elder' (by (with_reducible repeat (first | apply Kd.R_alloc | apply Kd.R_drewN | apply Kd.R_drew)); exact HO_891001.out) (Kd.R_base ho0) hb); have n1_ := Aside0.mk (Kd.R_elder' (by (with_reducible repeat (first | apply Kd.R_alloc | apply Kd.R_drewN | apply Kd.R_drew)); exact HO_895000.out) (Kd.R_base ho0) hb); have n2_ := Aside0.mk (Kd.R_elder' (by (with_reducible repeat (first | apply Kd.R_alloc | apply Kd.R_drewN | apply Kd.R_drew)); exact HO_901001.out) (Kd.R_base ho0) hb); have n3_ := Aside0.mk (Kd.R_lower (Kd.R_new' (Kd.R_new' (Kd.R_new' ho0 (Kd.R_lt (by (with_reducible repeat (first | apply Kd.R_alloc | apply Kd.R_drewN | apply Kd.R_drew)); exact HO_891001.out))) (Kd.R_lt (by (with_reducible repeat (first | apply Kd.R_alloc | apply Kd.R_drewN | apply Kd.R_drew)); exact HO_895000.out))) (Kd.R_lt (by (with_reducible repeat (first | apply Kd.R_alloc | apply Kd.R_drewN | apply Kd.R_drew)); exact HO_901001.out))) (below_size (by repeat (first | (with_reducible first | exact HB.out | apply below_alloc | apply pw_below_drewN | apply below_drew1 | refine below_set ?_ GE880.out | refine below_set ?_ GE890.out | refine below_set ?_ GE894.out | refine below_set ?_ GE900.out) | exact HB.out)))); have n4_ := Aside0.mk (blk_below (g := gb880) (o := .cells #[.slice A0_0 l0_0.length c0_0] 55 (0, 0)) (by (with_reducible repeat (first | refine blk_drewN ?_ _ | refine blk_drew ?_ | refine blk_alloc ?_ _)); exact BK880.out) hb); have n5_ := Aside0.mk (blk_below (g := gb890) (o := .cells #[.int .i64 t885, .slice Ao22 t886.length co22] 28 (0, 0)) (by (with_reducible repeat (first | refine blk_drewN ?_ _ | refine blk_drew ?_ | refine blk_alloc ?_ _)); exact BK890.out) hb); have n6_ := Aside0.mk (blk_below (g := gb894) (o := .cells #[.slice Ao26 t907.length co26] 58 (0, 0)) (by (with_reducible repeat (first | refine blk_drewN ?_ _ | refine blk_drew ?_ | refine blk_alloc ?_ _)); exact BK894.out) hb); have n7_ := Aside0.mk (blk_below (g := gb900) (o := .cells #[.int .i64 t895, .slice Ao36 t896.length co36] 28 (0, 0)) (by (with_reducible repeat (first | refine blk_drewN ?_ _ | refine blk_drew ?_ | refine blk_alloc ?_ _)); exact BK900.out) hb); have n8_ := Aside0.mk (below_step (by repeat (first | (with_reducible first | exact HB.out | apply below_alloc | apply pw_below_drewN | apply below_drew1 | refine below_set ?_ GE880.out | refine below_set ?_ GE890.out | refine below_set ?_ GE894.out | refine below_set ?_ GE900.out) | exact HB.out)) hb); clear HO_891001; clear HO_895000; clear HO_901001; clear BK880; clear BK890; clear BK894; clear BK900; clear HB; have HO_891001 := n0_; have HO_895000 := n1_; have HO_901001 := n2_; have HO914 := n3_; have BK880 := n4_; have BK890 := n5_; have BK894 := n6_; have BK900 := n7_; have HB := n8_; clear n0_ n1_ n2_ n3_ n4_ n5_ n6_ n7_ n8_; (try clear hb); (try clear hb2); (try clear hk); (try clear hi); (try clear ho0); obtain ⟨Ao115, co115, eo115⟩ := Kd.R_slice HO914.out; subst eo115) | ((with_reducible refine gate_callee (f := 46) rfl ?_); refine goesL_ (some 76) rfl rfl Try.func46 (by kernel_rfl) rfl #[.agg #[.slice Ao115 t912.length co115]] rfl (by (try simp only [List.map_toArray, List.map_cons, List.map_nil]); first | done | rfl | (simp only [List.length_drop, List.length_take]; rfl)) ?_; (with_reducible refine (impl_ChordalSpace.calls kj59 _ _ t912 t915 t916 t919 _ ?side1 ?side2 A102.out).mono ?_); (case side1 => repeat (first | exact (Kd.R_reads' HO914.out).2.2 | (with_reducible refine Kd.C_alloc ?_ _) | (with_reducible refine Kd.C_drewN ?_ _) | (with_reducible refine Kd.C_drew ?_))); (case side2 => exact (Kd.R_reads' HO914.out).2.1); rintro e w116 ⟨v917, rfl, ho0, hb⟩; refine ⟨_, rfl, ?_⟩; have n0_ := Aside0.mk (Kd.R_elder' (by (with_reducible repeat (first | apply Kd.R_alloc | apply Kd.R_drewN | apply Kd.R_drew)); exact HO_891001.out) (Kd.R_base ho0) hb); have n1_ := Aside0.mk (Kd.R_elder' (by (with_reducible repeat (first | apply Kd.R_alloc | apply Kd.R_drewN | apply Kd.R_drew)); exact HO_895000.out) (Kd.R_base ho0) hb); have n2_ := Aside0.mk (Kd.R_elder' (by (with_reducible repeat (first | apply Kd.R_alloc | apply Kd.R_drewN | apply Kd.R_drew)); exact HO_901001.out) (Kd.R_base ho0) hb); have n3_ := Aside0.mk (Kd.R_elder' (by (with_reducible repeat (first | apply Kd.R_alloc | apply Kd.R_drewN | apply Kd.R_drew)); exact HO914.out) (Kd.R_base ho0) hb); have n4_ := Aside0.mk (Kd.R_lower (Kd.R_new' (Kd.R_new' (Kd.R_new' (Kd.R_new' ho0 (Kd.R_lt (by (with_reducible repeat (first | apply Kd.R_alloc | apply Kd.R_drewN | apply Kd.R_drew)); exact HO_891001.out))) (Kd.R_lt (by (with_reducible repeat (first | apply Kd.R_alloc | apply Kd.R_drewN | apply Kd.R_drew)); exact HO_895000.out))) (Kd.R_lt (by (with_reducible repeat (first | apply Kd.R_alloc | apply Kd.R_drewN | apply Kd.R_drew)); exact HO_901001.out))) (Kd.R_lt (by (with_reducible repeat (first | apply Kd.R_alloc | apply Kd.R_drewN | apply Kd.R_drew)); exact HO914.out))) (below_size (by repeat (first | (with_reducible first | exact HB.out | apply below_alloc | apply pw_below_drewN | apply below_drew1 | refine below_set ?_ GE880.out | refine below_set ?_ GE890.out | refine below_set ?_ GE894.out | refine below_set ?_ GE900.out) | exact HB.out)))); have n5_ := Aside0.mk (blk_below (g := gb880) (o := .cells #[.slice A0_0 l0_0.length c0_0] 55 (0, 0)) (by (with_reducible repeat (first | refine blk_drewN ?_ _ | refine blk_drew ?_ | refine blk_alloc ?_ _)); exact BK880.out) hb); have n6_ := Aside0.mk (blk_below (g := gb890) (o := .cells #[.int .i64 t885, .slice Ao22 t886.length co22] 28 (0, 0)) (by (with_reducible repeat (first | refine blk_drewN ?_ _ | refine blk_drew ?_ | refine blk_alloc ?_ _)); exact BK890.out) hb); have n7_ := Aside0.mk (blk_below (g := gb894) (o := .cells #[.slice Ao26 t907.length co26] 58 (0, 0)) (by (with_reducible repeat (first | refine blk_drewN ?_ _ | refine blk_drew ?_ | refine blk_alloc ?_ _)); exact BK894.out) hb); have n8_ := Aside0.mk (blk_below (g := gb900) (o := .cells #[.int .i64 t895, .slice Ao36 t896.length co36] 28 (0, 0)) (by (with_reducible repeat (first | refine blk_drewN ?_ _ | refine blk_drew ?_ | refine blk_alloc ?_ _)); exact BK900.out) hb); have n9_ := Aside0.mk (below_step (by repeat (first | (with_reducible first | exact HB.out | apply below_alloc | apply pw_below_drewN | apply below_drew1 | refine below_set ?_ GE880.out | refine below_set ?_ GE890.out | refine below_set ?_ GE894.out | refine below_set ?_ GE900.out) | exact HB.out)) hb); clear HO_891001; clear HO_895000; clear HO_901001; clear HO914; clear BK880; clear BK890; clear BK894; clear BK900; clear HB; have HO_891001 := n0_; have HO_895000 := n1_; have HO_901001 := n2_; have HO914 := n3_; have HO918 := n4_; have BK880 := n5_; have BK890 := n6_; have BK894 := n7_; have BK900 := n8_; have HB := n9_; clear n0_ n1_ n2_ n3_ n4_ n5_ n6_ n7_ n8_ n9_; (try clear hb); (try clear hb2); (try clear hk); (try clear hi); (try clear ho0)) | ((with_reducible refine gate_dst (N := 12) rfl ?_); refine box_event ?hg (N := 12) ?hd (cs := #[.int .i64 0, .slice none 0 0]) (t := 28) ?hr ?_; (case hd => rfl); (case hg => rfl); (case hr => first | (go_simp; done) | (go_simp; rfl)); intro gb920 hg w117 hbox hb; have n0_ := Aside0.mk (Kd.R_below (by (with_reducible repeat (first | apply Kd.R_alloc | apply Kd.R_drewN | apply Kd.R_drew)); exact HO_891001.out) hb); have n1_ := Aside0.mk (Kd.R_below (by (with_reducible repeat (first | apply Kd.R_alloc | apply Kd.R_drewN | apply Kd.R_drew)); exact HO_895000.out) hb); have n2_ := Aside0.mk (Kd.R_below (by (with_reducible repeat (first | apply Kd.R_alloc | apply Kd.R_drewN | apply Kd.R_drew)); exact HO_901001.out) hb); have n3_ := Aside0.mk (Kd.R_below (by (with_reducible repeat (first | apply Kd.R_alloc | apply Kd.R_drewN | apply Kd.R_drew)); exact HO914.out) hb); have n4_ := Aside0.mk (Kd.R_below (by (with_reducible repeat (first | apply Kd.R_alloc | apply Kd.R_drewN | apply Kd.R_drew)); exact HO918.out) hb); have n5_ := Aside0.mk (blk_below (g := gb880) (o := .cells #[.slice A0_0 l0_0.length c0_0] 55 (0, 0)) (by (with_reducible repeat (first | refine blk_drewN ?_ _ | refine blk_drew ?_ | refine blk_alloc ?_ _)); exact BK880.out) hb); have n6_ := Aside0.mk (blk_below (g := gb890) (o := .cells #[.int .i64 t885, .slice Ao22 t886.length co22] 28 (0, 0)) (by (with_reducible repeat (first | refine blk_drewN ?_ _ | refine blk_drew ?_ | refine blk_alloc ?_ _)); exact BK890.out) hb); have n7_ := Aside0.mk (blk_below (g := gb894) (o := .cells #[.slice Ao26 t907.length co26] 58 (0, 0)) (by (with_reducible repeat (first | refine blk_drewN ?_ _ | refine blk_drew ?_ | refine blk_alloc ?_ _)); exact BK894.out) hb); have n8_ := Aside0.mk (blk_below (g := gb900) (o := .cells #[.int .i64 t895, .slice Ao36 t896.length co36] 28 (0, 0)) (by (with_reducible repeat (first | refine blk_drewN ?_ _ | refine blk_drew ?_ | refine blk_alloc ?_ _)); exact BK900.out) hb); have n9_ := Aside0.mk (below_step (by repeat (first | (with_reducible first | exact HB.out | apply below_alloc | apply pw_below_drewN | apply below_drew1 | refine below_set ?_ GE880.out | refine below_set ?_ GE890.out | refine below_set ?_ GE894.out | refine below_set ?_ GE900.out) | exact HB.out)) hb); have n10_ := Aside0.mk (hbox); have n11_ := Aside0.mk ((by rw [hg]; exact (below_size (by repeat (first | (with_reducible first | exact HB.out | apply below_alloc | apply pw_below_drewN | apply below_drew1 | refine below_set ?_ GE880.out | refine below_set ?_ GE890.out | refine below_set ?_ GE894.out | refine below_set ?_ GE900.out) | exact HB.out))) : w.heap.size ≤ gb920)); have n12_ := Aside0.mk ((by rw [hg]; exact (below_size (by repeat (first | (with_reducible first | exact HB.out | apply below_alloc | apply pw_below_drewN | apply below_drew1 | refine below_set ?_ GE880.out | refine below_set ?_ GE890.out | refine below_set ?_ GE894.out | refine below_set ?_ GE900.out) | exact HB.out))) : w.heap.size ≤ gb920)); have n13_ := Aside0.mk ((by rw [hg]; exact Nat.ne_of_lt (blk_lt (g := gb880) (o := .cells #[.slice A0_0 l0_0.length c0_0] 55 (0, 0)) (by (with_reducible repeat (first | refine blk_drewN ?_ _ | refine blk_drew ?_ | refine blk_alloc ?_ _)); exact BK880.out)) : gb880 ≠ gb920)); have n14_ := Aside0.mk ((by rw [hg]; exact Nat.ne_of_gt (blk_lt (g := gb880) (o := .cells #[.slice A0_0 l0_0.length c0_0] 55 (0, 0)) (by (with_reducible repeat (first | refine blk_drewN ?_ _ | refine blk_drew ?_ | refine blk_alloc ?_ _)); exact BK880.out)) : gb920 ≠ gb880)); have n15_ := Aside0.mk ((by rw [hg]; exact Nat.ne_of_lt (blk_lt (g := gb890) (o := .cells #[.int .i64 t885, .slice Ao22 t886.length co22] 28 (0, 0)) (by (with_reducible repeat (first | refine blk_drewN ?_ _ | refine blk_drew ?_ | refine blk_alloc ?_ _)); exact BK890.out)) : gb890 ≠ gb920)); have n16_ := Aside0.mk ((by rw [hg]; exact Nat.ne_of_gt (blk_lt (g := gb890) (o := .cells #[.int .i64 t885, .slice Ao22 t886.length co22] 28 (0, 0)) (by (with_reducible repeat (first | refine blk_drewN ?_ _ | refine blk_drew ?_ | refine blk_alloc ?_ _)); exact BK890.out)) : gb920 ≠ gb890)); have n17_ := Aside0.mk ((by rw [hg]; exact Nat.ne_of_lt (blk_lt (g := gb894) (o := .cells #[.slice Ao26 t907.length co26] 58 (0, 0)) (by (with_reducible repeat (first | refine blk_drewN ?_ _ | refine blk_drew ?_ | refine blk_alloc ?_ _)); exact BK894.out)) : gb894 ≠ gb920)); have n18_ := Aside0.mk ((by rw [hg]; exact Nat.ne_of_gt (blk_lt (g := gb894) (o := .cells #[.slice Ao26 t907.length co26] 58 (0, 0)) (by (with_reducible repeat (first | refine blk_drewN ?_ _ | refine blk_drew ?_ | refine blk_alloc ?_ _)); exact BK894.out)) : gb920 ≠ gb894)); have n19_ := Aside0.mk ((by rw [hg]; exact Nat.ne_of_lt (blk_lt (g := gb900) (o := .cells #[.int .i64 t895, .slice Ao36 t896.length co36] 28 (0, 0)) (by (with_reducible repeat (first | refine blk_drewN ?_ _ | refine blk_drew ?_ | refine blk_alloc ?_ _)); exact BK900.out)) : gb900 ≠ gb920)); have n20_ := Aside0.mk ((by rw [hg]; exact Nat.ne_of_gt (blk_lt (g := gb900) (o := .cells #[.int .i64 t895, .slice Ao36 t896.length co36] 28 (0, 0)) (by (with_reducible repeat (first | refine blk_drewN ?_ _ | refine blk_drew ?_ | refine blk_alloc ?_ _)); exact BK900.out)) : gb920 ≠ gb900)); clear HO_891001; clear HO_895000; clear HO_901001; clear HO914; clear HO918; clear BK880; clear BK890; clear BK894; clear BK900; clear HB; have HO_891001 := n0_; have HO_895000 := n1_; have HO_901001 := n2_; have HO914 := n3_; have HO918 := n4_; have BK880 := n5_; have BK890 := n6_; have BK894 := n7_; have BK900 := n8_; have HB := n9_; have BK920 := n10_; have GW920 := n11_; have GE920 := n12_; have NB880_920 := n13_; have NB920_880 := n14_; have NB890_920 := n15_; have NB920_890 := n16_; have NB894_920 := n17_; have NB920_894 := n18_; have NB900_920 := n19_; have NB920_900 := n20_; clear n0_ n1_ n2_ n3_ n4_ n5_ n6_ n7_ n8_ n9_ n10_ n11_ n12_ n13_ n14_ n15_ n16_ n17_ n18_ n19_ n20_; clear hb hbox hg; have hnb118 := NB920_880.out; have hnc118 := NB880_920.out; have hnb119 := NB920_890.out; have hnc119 := NB890_920.out; have hnb120 := NB920_894.out; have hnc120 := NB894_920.out; have hnb121 := NB920_900.out; have hnc121 := NB900_920.out; have hcz122_0 : w117.cell? ⟨gb920, 0, none⟩ = some (.int .i64 0) := (blk_cell BK920.out 0).trans rfl; have hcz122_1 : w117.cell? ⟨gb920, 1, none⟩ = some (.slice none 0 0) := (blk_cell BK920.out 1).trans rfl; have hfz122_0 := blk_frozen BK920.out 0; have hfz122_1 := blk_frozen BK920.out 1; obtain ⟨Ao123, co123, eo123⟩ := Kd.R_slice HO918.out; subst eo123))
                      (try simp only [Act.put, List.setIfInBounds_toArray, List.set_cons_zero, List.set_cons_succ])
                      go_cut [87] (fun v87 wc => ∃ (kq : Nat) (x87_102 : Bool), v87 = .bool x87_102 ∧ Aside0 (laws_FnExactChordalSpace.j2 kq t909 x87_102 t895 t910 = some r) ∧ Aside0 (kq ≤ kj59) ∧ Aside0 (Kd.R (Kd.int .i64) 3 wc w.heap.size (fun k_ => some k_ ≠ ((.slice Ao26 t907.length co26) : Value).ownBlock ∧ some k_ ≠ ((.slice Ao36 t896.length co36) : Value).ownBlock ∧ some k_ ≠ ((.slice Ao123 t916.length co123) : Value).ownBlock) (.slice Ao22 t886.length co22) t886) ∧ Aside0 (Kd.R (Kd.int .i64) 3 wc w.heap.size (fun k_ => some k_ ≠ ((.slice Ao22 t886.length co22) : Value).ownBlock ∧ some k_ ≠ ((.slice Ao36 t896.length co36) : Value).ownBlock ∧ some k_ ≠ ((.slice Ao123 t916.length co123) : Value).ownBlock) (.slice Ao26 t907.length co26) t907) ∧ Aside0 (Kd.R (Kd.int .i64) 3 wc w.heap.size (fun k_ => some k_ ≠ ((.slice Ao22 t886.length co22) : Value).ownBlock ∧ some k_ ≠ ((.slice Ao26 t907.length co26) : Value).ownBlock ∧ some k_ ≠ ((.slice Ao123 t916.length co123) : Value).ownBlock) (.slice Ao36 t896.length co36) t910) ∧ Aside0 (Kd.R (Kd.int .i64) 3 wc w.heap.size (fun k_ => some k_ ≠ ((.slice Ao22 t886.length co22) : Value).ownBlock ∧ some k_ ≠ ((.slice Ao26 t907.length co26) : Value).ownBlock ∧ some k_ ≠ ((.slice Ao36 t896.length co36) : Value).ownBlock) (.slice Ao123 t916.length co123) t916) ∧ Aside0 (wc.heap[gb880]? = some (.cells #[(.slice A0_0 l0_0.length c0_0)] 55 (0, 0))) ∧ Aside0 (wc.heap[gb890]? = some (.cells #[.int .i64 t885, (.slice Ao22 t886.length co22)] 28 (0, 0))) ∧ Aside0 (wc.heap[gb894]? = some (.cells #[(.slice Ao26 t907.length co26)] 58 (0, 0))) ∧ Aside0 (wc.heap[gb900]? = some (.cells #[.int .i64 t895, (.slice Ao36 t896.length co36)] 28 (0, 0))) ∧ Aside0 (wc.heap[gb920]? = some (.cells #[.int .i64 t915, (.slice Ao123 t916.length co123)] 28 (0, 0))) ∧ Aside0 (Below w.heap.size w wc))
                      case first =>
                        have H := HC103.out
                        clear HC103
                        replace H := Option.bind_eq_some_iff.mp H
                        obtain ⟨t921, A1240, H⟩ := H
                        replace H : (if t921 = true then (laws_FnExactChordalSpace.j2 kj59 t909 (t919 != t889) t895 t910) else (laws_FnExactChordalSpace.j2 kj59 t909 true t895 t910)) = some r := H
                        have A124 := Aside0.mk A1240
                        clear A1240
                        by_cases c125 : t921 = true
                        · subst c125
                          have H1 : (laws_FnExactChordalSpace.j2 kj59 t909 (t919 != t889) t895 t910) = some r := by rw [if_pos rfl] at H; exact H
                          clear H
                          have H := H1
                          clear H1
                          have H' := Aside0.mk H
                          clear H
                          have hnb126 := NB920_880.out
                          have hnc126 := NB880_920.out
                          have hnb127 := NB920_890.out
                          have hnc127 := NB890_920.out
                          have hnb128 := NB920_894.out
                          have hnc128 := NB894_920.out
                          have hnb129 := NB920_900.out
                          have hnc129 := NB900_920.out
                          have hcz130_0 : w117.cell? ⟨gb920, 0, none⟩ = some (.int .i64 0) := (blk_cell BK920.out 0).trans rfl
                          have hcz130_1 : w117.cell? ⟨gb920, 1, none⟩ = some (.slice none 0 0) := (blk_cell BK920.out 1).trans rfl
                          have hfz130_0 := blk_frozen BK920.out 0
                          have hfz130_1 := blk_frozen BK920.out 1
                          have hnb131 := NB890_880.out
                          have hnc131 := NB880_890.out
                          have hnb132 := NB890_894.out
                          have hnc132 := NB894_890.out
                          have hnb133 := NB890_900.out
                          have hnc133 := NB900_890.out
                          have hcz134_0 : w117.cell? ⟨gb890, 0, none⟩ = some (.int .i64 t885) := (blk_cell BK890.out 0).trans rfl
                          have hcz134_1 : w117.cell? ⟨gb890, 1, none⟩ = some (.slice Ao22 t886.length co22) := (blk_cell BK890.out 1).trans rfl
                          have hfz134_0 := blk_frozen BK890.out 0
                          have hfz134_1 := blk_frozen BK890.out 1
                          go_wp2_with (first | ((with_reducible refine gate_callee (f := 19) rfl ?_); refine goesL_ (some 81) rfl rfl Try.func19 (by kernel_rfl) rfl #[.agg #[.int .i64 t915, .slice Ao123 t916.length co123], .agg #[.int .i64 t885, .slice Ao22 t886.length co22]] rfl (by (try simp only [List.map_toArray, List.map_cons, List.map_nil]); first | done | rfl | (simp only [List.length_drop, List.length_take]; rfl)) ?_; (with_reducible refine (laws_eqSpace.calls kj59 t915 _ _ t916 t885 _ _ t886 true _ ?side1 ?side2 ?side3 ?side4 A124.out).mono ?_); (case side1 => refine (Kd.R_reads' (e := 3) (base := w.heap.size) (ok := fun k_ => ((((True ∧ some k_ ≠ (.slice Ao22 t886.length co22 : Value).ownBlock) ∧ some k_ ≠ (.slice Ao26 t907.length co26 : Value).ownBlock) ∧ some k_ ≠ (.slice Ao36 t896.length co36 : Value).ownBlock) ∧ some k_ ≠ (.slice Ao115 t912.length co115 : Value).ownBlock)) (n := t916.length) (c := co123) ?_).2.2; exact (by (with_reducible repeat (first | apply Kd.R_alloc | apply Kd.R_drewN | apply Kd.R_drew)); exact (Kd.R_mono (Kd.R_far (p := ⟨gb920, 1, none⟩) (Kd.R_far (p := ⟨gb920, 0, none⟩) (Kd.R_types HO918.out BK920.out (by decide)) (fun _ hk => hk.2) (.int .i64 t915)) (fun _ hk => hk.2) (.slice Ao123 t916.length co123)) (fun _ h_ => h_.1)))); (case side2 => exact (Kd.R_reads' HO918.out).2.1); (case side3 => refine (Kd.R_reads' (e := 3) (base := w.heap.size) (ok := fun k_ => (((some k_ ≠ (.slice Ao26 t907.length co26 : Value).ownBlock ∧ some k_ ≠ (.slice Ao36 t896.length co36 : Value).ownBlock) ∧ some k_ ≠ (.slice Ao115 t912.length co115 : Value).ownBlock) ∧ some k_ ≠ (.slice Ao123 t916.length co123 : Value).ownBlock)) (n := t886.length) (c := co22) ?_).2.2; exact (by (with_reducible repeat (first | apply Kd.R_alloc | apply Kd.R_drewN | apply Kd.R_drew)); exact (Kd.R_mono (Kd.R_far (p := ⟨gb920, 1, none⟩) (Kd.R_far (p := ⟨gb920, 0, none⟩) (Kd.R_types HO_891001.out BK920.out (by decide)) (fun _ hk => hk.2) (.int .i64 t915)) (fun _ hk => hk.2) (.slice Ao123 t916.length co123)) (fun _ h_ => h_.1)))); (case side4 => exact (Kd.R_reads' HO_891001.out).2.1); rintro e w135 ⟨rfl, hb⟩; refine ⟨_, rfl, ?_⟩; have n0_ := Aside0.mk (Kd.R_below (by (with_reducible repeat (first | apply Kd.R_alloc | apply Kd.R_drewN | apply Kd.R_drew)); exact (Kd.R_mono (Kd.R_far (p := ⟨gb920, 1, none⟩) (Kd.R_far (p := ⟨gb920, 0, none⟩) (Kd.R_types HO_891001.out BK920.out (by decide)) (fun _ hk => hk.2) (.int .i64 t915)) (fun _ hk => hk.2) (.slice Ao123 t916.length co123)) (fun _ h_ => h_.1))) hb); have n1_ := Aside0.mk (Kd.R_below (by (with_reducible repeat (first | apply Kd.R_alloc | apply Kd.R_drewN | apply Kd.R_drew)); exact (Kd.R_mono (Kd.R_far (p := ⟨gb920, 1, none⟩) (Kd.R_far (p := ⟨gb920, 0, none⟩) (Kd.R_types HO_895000.out BK920.out (by decide)) (fun _ hk => hk.2) (.int .i64 t915)) (fun _ hk => hk.2) (.slice Ao123 t916.length co123)) (fun _ h_ => h_.1))) hb); have n2_ := Aside0.mk (Kd.R_below (by (with_reducible repeat (first | apply Kd.R_alloc | apply Kd.R_drewN | apply Kd.R_drew)); exact (Kd.R_mono (Kd.R_far (p := ⟨gb920, 1, none⟩) (Kd.R_far (p := ⟨gb920, 0, none⟩) (Kd.R_types HO_901001.out BK920.out (by decide)) (fun _ hk => hk.2) (.int .i64 t915)) (fun _ hk => hk.2) (.slice Ao123 t916.length co123)) (fun _ h_ => h_.1))) hb); have n3_ := Aside0.mk (Kd.R_below (by (with_reducible repeat (first | apply Kd.R_alloc | apply Kd.R_drewN | apply Kd.R_drew)); exact (Kd.R_mono (Kd.R_far (p := ⟨gb920, 1, none⟩) (Kd.R_far (p := ⟨gb920, 0, none⟩) (Kd.R_types HO914.out BK920.out (by decide)) (fun _ hk => hk.2) (.int .i64 t915)) (fun _ hk => hk.2) (.slice Ao123 t916.length co123)) (fun _ h_ => h_.1))) hb); have n4_ := Aside0.mk (Kd.R_below (by (with_reducible repeat (first | apply Kd.R_alloc | apply Kd.R_drewN | apply Kd.R_drew)); exact (Kd.R_mono (Kd.R_far (p := ⟨gb920, 1, none⟩) (Kd.R_far (p := ⟨gb920, 0, none⟩) (Kd.R_types HO918.out BK920.out (by decide)) (fun _ hk => hk.2) (.int .i64 t915)) (fun _ hk => hk.2) (.slice Ao123 t916.length co123)) (fun _ h_ => h_.1))) hb); have n5_ := Aside0.mk (blk_below (g := gb880) (o := .cells #[.slice A0_0 l0_0.length c0_0] 55 (0, 0)) (by (with_reducible repeat (first | refine blk_drewN ?_ _ | refine blk_drew ?_ | refine blk_alloc ?_ _)); refine blk_far ?_ NB880_920.out _; (with_reducible repeat (first | refine blk_drewN ?_ _ | refine blk_drew ?_ | refine blk_alloc ?_ _)); refine blk_far ?_ NB880_920.out _; (with_reducible repeat (first | refine blk_drewN ?_ _ | refine blk_drew ?_ | refine blk_alloc ?_ _)); exact BK880.out) hb); have n6_ := Aside0.mk (blk_below (g := gb890) (o := .cells #[.int .i64 t885, .slice Ao22 t886.length co22] 28 (0, 0)) (by (with_reducible repeat (first | refine blk_drewN ?_ _ | refine blk_drew ?_ | refine blk_alloc ?_ _)); refine blk_far ?_ NB890_920.out _; (with_reducible repeat (first | refine blk_drewN ?_ _ | refine blk_drew ?_ | refine blk_alloc ?_ _)); refine blk_far ?_ NB890_920.out _; (with_reducible repeat (first | refine blk_drewN ?_ _ | refine blk_drew ?_ | refine blk_alloc ?_ _)); exact BK890.out) hb); have n7_ := Aside0.mk (blk_below (g := gb894) (o := .cells #[.slice Ao26 t907.length co26] 58 (0, 0)) (by (with_reducible repeat (first | refine blk_drewN ?_ _ | refine blk_drew ?_ | refine blk_alloc ?_ _)); refine blk_far ?_ NB894_920.out _; (with_reducible repeat (first | refine blk_drewN ?_ _ | refine blk_drew ?_ | refine blk_alloc ?_ _)); refine blk_far ?_ NB894_920.out _; (with_reducible repeat (first | refine blk_drewN ?_ _ | refine blk_drew ?_ | refine blk_alloc ?_ _)); exact BK894.out) hb); have n8_ := Aside0.mk (blk_below (g := gb900) (o := .cells #[.int .i64 t895, .slice Ao36 t896.length co36] 28 (0, 0)) (by (with_reducible repeat (first | refine blk_drewN ?_ _ | refine blk_drew ?_ | refine blk_alloc ?_ _)); refine blk_far ?_ NB900_920.out _; (with_reducible repeat (first | refine blk_drewN ?_ _ | refine blk_drew ?_ | refine blk_alloc ?_ _)); refine blk_far ?_ NB900_920.out _; (with_reducible repeat (first | refine blk_drewN ?_ _ | refine blk_drew ?_ | refine blk_alloc ?_ _)); exact BK900.out) hb); have n9_ := Aside0.mk (blk_below (g := gb920) (o := .cells #[.int .i64 t915, .slice Ao123 t916.length co123] 28 (0, 0)) (by (with_reducible repeat (first | refine blk_drewN ?_ _ | refine blk_drew ?_ | refine blk_alloc ?_ _)); refine blk_put (cs := #[.int .i64 t915, .slice none 0 0]) ?_ 1 _ rfl; (with_reducible repeat (first | refine blk_drewN ?_ _ | refine blk_drew ?_ | refine blk_alloc ?_ _)); refine blk_put (cs := #[.int .i64 0, .slice none 0 0]) ?_ 0 _ rfl; (with_reducible repeat (first | refine blk_drewN ?_ _ | refine blk_drew ?_ | refine blk_alloc ?_ _)); exact BK920.out) hb); have n10_ := Aside0.mk (below_step (by repeat (first | (with_reducible first | exact HB.out | apply below_alloc | apply pw_below_drewN | apply below_drew1 | refine below_set ?_ GE880.out | refine below_set ?_ GE890.out | refine below_set ?_ GE894.out | refine below_set ?_ GE900.out | refine below_set ?_ GE920.out) | exact HB.out)) hb); clear HO_891001; clear HO_895000; clear HO_901001; clear HO914; clear HO918; clear BK880; clear BK890; clear BK894; clear BK900; clear BK920; clear HB; have HO_891001 := n0_; have HO_895000 := n1_; have HO_901001 := n2_; have HO914 := n3_; have HO918 := n4_; have BK880 := n5_; have BK890 := n6_; have BK894 := n7_; have BK900 := n8_; have BK920 := n9_; have HB := n10_; clear n0_ n1_ n2_ n3_ n4_ n5_ n6_ n7_ n8_ n9_ n10_; (try clear hb); (try clear hb2); (try clear hk); (try clear hi)))
                          go_meet
                          case rel => exact ⟨_, ((t919 != t889)), (by first | rfl | (simp; done) | (simp [*]; done)), H', ⟨by have := HJ10.out; have := HJ59.out; first | omega | exact Nat.le_refl _⟩, ⟨by (try simp only [hl895000_59]); (with_reducible repeat (first | apply Kd.R_alloc | apply Kd.R_drewN | apply Kd.R_drew)); exact Kd.R_mono HO_891001.out (fun _ hk => ⟨hk.1.1.1, ⟨hk.1.1.2, hk.2⟩⟩)⟩, ⟨by (try simp only [hl895000_59]); (with_reducible repeat (first | apply Kd.R_alloc | apply Kd.R_drewN | apply Kd.R_drew)); exact Kd.R_mono HO_895000.out (fun _ hk => ⟨hk.1.1.1, ⟨hk.1.1.2, hk.2⟩⟩)⟩, ⟨by (try simp only [hl895000_59]); (with_reducible repeat (first | apply Kd.R_alloc | apply Kd.R_drewN | apply Kd.R_drew)); exact Kd.R_mono HO_901001.out (fun _ hk => ⟨hk.1.1.1, ⟨hk.1.1.2, hk.2⟩⟩)⟩, ⟨by (try simp only [hl895000_59]); (with_reducible repeat (first | apply Kd.R_alloc | apply Kd.R_drewN | apply Kd.R_drew)); exact Kd.R_mono HO918.out (fun _ hk => ⟨hk.1.1.1.2, ⟨hk.1.1.2, hk.1.2⟩⟩)⟩, ⟨by (try simp only [hl895000_59]); (with_reducible repeat (first | refine blk_drewN ?_ _ | refine blk_drew ?_ | refine blk_alloc ?_ _)); exact BK880.out⟩, ⟨by (try simp only [hl895000_59]); (with_reducible repeat (first | refine blk_drewN ?_ _ | refine blk_drew ?_ | refine blk_alloc ?_ _)); exact BK890.out⟩, ⟨by (try simp only [hl895000_59]); (with_reducible repeat (first | refine blk_drewN ?_ _ | refine blk_drew ?_ | refine blk_alloc ?_ _)); exact BK894.out⟩, ⟨by (try simp only [hl895000_59]); (with_reducible repeat (first | refine blk_drewN ?_ _ | refine blk_drew ?_ | refine blk_alloc ?_ _)); exact BK900.out⟩, ⟨by (try simp only [hl895000_59]); (with_reducible repeat (first | refine blk_drewN ?_ _ | refine blk_drew ?_ | refine blk_alloc ?_ _)); exact BK920.out⟩, ⟨by repeat (first | (with_reducible first | exact HB.out | apply below_alloc | apply pw_below_drewN | apply below_drew1 | refine below_set ?_ GE880.out | refine below_set ?_ GE890.out | refine below_set ?_ GE894.out | refine below_set ?_ GE900.out | refine below_set ?_ GE920.out) | exact HB.out)⟩⟩
                        · replace c125 := Bool.eq_false_iff.mpr c125
                          subst c125
                          have H1 : (laws_FnExactChordalSpace.j2 kj59 t909 true t895 t910) = some r := by rw [if_neg (show ¬ (false = true) by decide)] at H; exact H
                          clear H
                          have H := H1
                          clear H1
                          have H' := Aside0.mk H
                          clear H
                          have hnb136 := NB920_880.out
                          have hnc136 := NB880_920.out
                          have hnb137 := NB920_890.out
                          have hnc137 := NB890_920.out
                          have hnb138 := NB920_894.out
                          have hnc138 := NB894_920.out
                          have hnb139 := NB920_900.out
                          have hnc139 := NB900_920.out
                          have hcz140_0 : w117.cell? ⟨gb920, 0, none⟩ = some (.int .i64 0) := (blk_cell BK920.out 0).trans rfl
                          have hcz140_1 : w117.cell? ⟨gb920, 1, none⟩ = some (.slice none 0 0) := (blk_cell BK920.out 1).trans rfl
                          have hfz140_0 := blk_frozen BK920.out 0
                          have hfz140_1 := blk_frozen BK920.out 1
                          have hnb141 := NB890_880.out
                          have hnc141 := NB880_890.out
                          have hnb142 := NB890_894.out
                          have hnc142 := NB894_890.out
                          have hnb143 := NB890_900.out
                          have hnc143 := NB900_890.out
                          have hcz144_0 : w117.cell? ⟨gb890, 0, none⟩ = some (.int .i64 t885) := (blk_cell BK890.out 0).trans rfl
                          have hcz144_1 : w117.cell? ⟨gb890, 1, none⟩ = some (.slice Ao22 t886.length co22) := (blk_cell BK890.out 1).trans rfl
                          have hfz144_0 := blk_frozen BK890.out 0
                          have hfz144_1 := blk_frozen BK890.out 1
                          go_wp2_with (first | ((with_reducible refine gate_callee (f := 19) rfl ?_); refine goesL_ (some 81) rfl rfl Try.func19 (by kernel_rfl) rfl #[.agg #[.int .i64 t915, .slice Ao123 t916.length co123], .agg #[.int .i64 t885, .slice Ao22 t886.length co22]] rfl (by (try simp only [List.map_toArray, List.map_cons, List.map_nil]); first | done | rfl | (simp only [List.length_drop, List.length_take]; rfl)) ?_; (with_reducible refine (laws_eqSpace.calls kj59 t915 _ _ t916 t885 _ _ t886 false _ ?side1 ?side2 ?side3 ?side4 A124.out).mono ?_); (case side1 => refine (Kd.R_reads' (e := 3) (base := w.heap.size) (ok := fun k_ => ((((True ∧ some k_ ≠ (.slice Ao22 t886.length co22 : Value).ownBlock) ∧ some k_ ≠ (.slice Ao26 t907.length co26 : Value).ownBlock) ∧ some k_ ≠ (.slice Ao36 t896.length co36 : Value).ownBlock) ∧ some k_ ≠ (.slice Ao115 t912.length co115 : Value).ownBlock)) (n := t916.length) (c := co123) ?_).2.2; exact (by (with_reducible repeat (first | apply Kd.R_alloc | apply Kd.R_drewN | apply Kd.R_drew)); exact (Kd.R_mono (Kd.R_far (p := ⟨gb920, 1, none⟩) (Kd.R_far (p := ⟨gb920, 0, none⟩) (Kd.R_types HO918.out BK920.out (by decide)) (fun _ hk => hk.2) (.int .i64 t915)) (fun _ hk => hk.2) (.slice Ao123 t916.length co123)) (fun _ h_ => h_.1)))); (case side2 => exact (Kd.R_reads' HO918.out).2.1); (case side3 => refine (Kd.R_reads' (e := 3) (base := w.heap.size) (ok := fun k_ => (((some k_ ≠ (.slice Ao26 t907.length co26 : Value).ownBlock ∧ some k_ ≠ (.slice Ao36 t896.length co36 : Value).ownBlock) ∧ some k_ ≠ (.slice Ao115 t912.length co115 : Value).ownBlock) ∧ some k_ ≠ (.slice Ao123 t916.length co123 : Value).ownBlock)) (n := t886.length) (c := co22) ?_).2.2; exact (by (with_reducible repeat (first | apply Kd.R_alloc | apply Kd.R_drewN | apply Kd.R_drew)); exact (Kd.R_mono (Kd.R_far (p := ⟨gb920, 1, none⟩) (Kd.R_far (p := ⟨gb920, 0, none⟩) (Kd.R_types HO_891001.out BK920.out (by decide)) (fun _ hk => hk.2) (.int .i64 t915)) (fun _ hk => hk.2) (.slice Ao123 t916.length co123)) (fun _ h_ => h_.1)))); (case side4 => exact (Kd.R_reads' HO_891001.out).2.1); rintro e w145 ⟨rfl, hb⟩; refine ⟨_, rfl, ?_⟩; have n0_ := Aside0.mk (Kd.R_below (by (with_reducible repeat (first | apply Kd.R_alloc | apply Kd.R_drewN | apply Kd.R_drew)); exact (Kd.R_mono (Kd.R_far (p := ⟨gb920, 1, none⟩) (Kd.R_far (p := ⟨gb920, 0, none⟩) (Kd.R_types HO_891001.out BK920.out (by decide)) (fun _ hk => hk.2) (.int .i64 t915)) (fun _ hk => hk.2) (.slice Ao123 t916.length co123)) (fun _ h_ => h_.1))) hb); have n1_ := Aside0.mk (Kd.R_below (by (with_reducible repeat (first | apply Kd.R_alloc | apply Kd.R_drewN | apply Kd.R_drew)); exact (Kd.R_mono (Kd.R_far (p := ⟨gb920, 1, none⟩) (Kd.R_far (p := ⟨gb920, 0, none⟩) (Kd.R_types HO_895000.out BK920.out (by decide)) (fun _ hk => hk.2) (.int .i64 t915)) (fun _ hk => hk.2) (.slice Ao123 t916.length co123)) (fun _ h_ => h_.1))) hb); have n2_ := Aside0.mk (Kd.R_below (by (with_reducible repeat (first | apply Kd.R_alloc | apply Kd.R_drewN | apply Kd.R_drew)); exact (Kd.R_mono (Kd.R_far (p := ⟨gb920, 1, none⟩) (Kd.R_far (p := ⟨gb920, 0, none⟩) (Kd.R_types HO_901001.out BK920.out (by decide)) (fun _ hk => hk.2) (.int .i64 t915)) (fun _ hk => hk.2) (.slice Ao123 t916.length co123)) (fun _ h_ => h_.1))) hb); have n3_ := Aside0.mk (Kd.R_below (by (with_reducible repeat (first | apply Kd.R_alloc | apply Kd.R_drewN | apply Kd.R_drew)); exact (Kd.R_mono (Kd.R_far (p := ⟨gb920, 1, none⟩) (Kd.R_far (p := ⟨gb920, 0, none⟩) (Kd.R_types HO914.out BK920.out (by decide)) (fun _ hk => hk.2) (.int .i64 t915)) (fun _ hk => hk.2) (.slice Ao123 t916.length co123)) (fun _ h_ => h_.1))) hb); have n4_ := Aside0.mk (Kd.R_below (by (with_reducible repeat (first | apply Kd.R_alloc | apply Kd.R_drewN | apply Kd.R_drew)); exact (Kd.R_mono (Kd.R_far (p := ⟨gb920, 1, none⟩) (Kd.R_far (p := ⟨gb920, 0, none⟩) (Kd.R_types HO918.out BK920.out (by decide)) (fun _ hk => hk.2) (.int .i64 t915)) (fun _ hk => hk.2) (.slice Ao123 t916.length co123)) (fun _ h_ => h_.1))) hb); have n5_ := Aside0.mk (blk_below (g := gb880) (o := .cells #[.slice A0_0 l0_0.length c0_0] 55 (0, 0)) (by (with_reducible repeat (first | refine blk_drewN ?_ _ | refine blk_drew ?_ | refine blk_alloc ?_ _)); refine blk_far ?_ NB880_920.out _; (with_reducible repeat (first | refine blk_drewN ?_ _ | refine blk_drew ?_ | refine blk_alloc ?_ _)); refine blk_far ?_ NB880_920.out _; (with_reducible repeat (first | refine blk_drewN ?_ _ | refine blk_drew ?_ | refine blk_alloc ?_ _)); exact BK880.out) hb); have n6_ := Aside0.mk (blk_below (g := gb890) (o := .cells #[.int .i64 t885, .slice Ao22 t886.length co22] 28 (0, 0)) (by (with_reducible repeat (first | refine blk_drewN ?_ _ | refine blk_drew ?_ | refine blk_alloc ?_ _)); refine blk_far ?_ NB890_920.out _; (with_reducible repeat (first | refine blk_drewN ?_ _ | refine blk_drew ?_ | refine blk_alloc ?_ _)); refine blk_far ?_ NB890_920.out _; (with_reducible repeat (first | refine blk_drewN ?_ _ | refine blk_drew ?_ | refine blk_alloc ?_ _)); exact BK890.out) hb); have n7_ := Aside0.mk (blk_below (g := gb894) (o := .cells #[.slice Ao26 t907.length co26] 58 (0, 0)) (by (with_reducible repeat (first | refine blk_drewN ?_ _ | refine blk_drew ?_ | refine blk_alloc ?_ _)); refine blk_far ?_ NB894_920.out _; (with_reducible repeat (first | refine blk_drewN ?_ _ | refine blk_drew ?_ | refine blk_alloc ?_ _)); refine blk_far ?_ NB894_920.out _; (with_reducible repeat (first | refine blk_drewN ?_ _ | refine blk_drew ?_ | refine blk_alloc ?_ _)); exact BK894.out) hb); have n8_ := Aside0.mk (blk_below (g := gb900) (o := .cells #[.int .i64 t895, .slice Ao36 t896.length co36] 28 (0, 0)) (by (with_reducible repeat (first | refine blk_drewN ?_ _ | refine blk_drew ?_ | refine blk_alloc ?_ _)); refine blk_far ?_ NB900_920.out _; (with_reducible repeat (first | refine blk_drewN ?_ _ | refine blk_drew ?_ | refine blk_alloc ?_ _)); refine blk_far ?_ NB900_920.out _; (with_reducible repeat (first | refine blk_drewN ?_ _ | refine blk_drew ?_ | refine blk_alloc ?_ _)); exact BK900.out) hb); have n9_ := Aside0.mk (blk_below (g := gb920) (o := .cells #[.int .i64 t915, .slice Ao123 t916.length co123] 28 (0, 0)) (by (with_reducible repeat (first | refine blk_drewN ?_ _ | refine blk_drew ?_ | refine blk_alloc ?_ _)); refine blk_put (cs := #[.int .i64 t915, .slice none 0 0]) ?_ 1 _ rfl; (with_reducible repeat (first | refine blk_drewN ?_ _ | refine blk_drew ?_ | refine blk_alloc ?_ _)); refine blk_put (cs := #[.int .i64 0, .slice none 0 0]) ?_ 0 _ rfl; (with_reducible repeat (first | refine blk_drewN ?_ _ | refine blk_drew ?_ | refine blk_alloc ?_ _)); exact BK920.out) hb); have n10_ := Aside0.mk (below_step (by repeat (first | (with_reducible first | exact HB.out | apply below_alloc | apply pw_below_drewN | apply below_drew1 | refine below_set ?_ GE880.out | refine below_set ?_ GE890.out | refine below_set ?_ GE894.out | refine below_set ?_ GE900.out | refine below_set ?_ GE920.out) | exact HB.out)) hb); clear HO_891001; clear HO_895000; clear HO_901001; clear HO914; clear HO918; clear BK880; clear BK890; clear BK894; clear BK900; clear BK920; clear HB; have HO_891001 := n0_; have HO_895000 := n1_; have HO_901001 := n2_; have HO914 := n3_; have HO918 := n4_; have BK880 := n5_; have BK890 := n6_; have BK894 := n7_; have BK900 := n8_; have BK920 := n9_; have HB := n10_; clear n0_ n1_ n2_ n3_ n4_ n5_ n6_ n7_ n8_ n9_ n10_; (try clear hb); (try clear hb2); (try clear hk); (try clear hi)))
                          go_meet
                          case rel => exact ⟨_, (true), (by first | rfl | (simp; done) | (simp [*]; done)), H', ⟨by have := HJ10.out; have := HJ59.out; first | omega | exact Nat.le_refl _⟩, ⟨by (try simp only [hl895000_59]); (with_reducible repeat (first | apply Kd.R_alloc | apply Kd.R_drewN | apply Kd.R_drew)); exact Kd.R_mono HO_891001.out (fun _ hk => ⟨hk.1.1.1, ⟨hk.1.1.2, hk.2⟩⟩)⟩, ⟨by (try simp only [hl895000_59]); (with_reducible repeat (first | apply Kd.R_alloc | apply Kd.R_drewN | apply Kd.R_drew)); exact Kd.R_mono HO_895000.out (fun _ hk => ⟨hk.1.1.1, ⟨hk.1.1.2, hk.2⟩⟩)⟩, ⟨by (try simp only [hl895000_59]); (with_reducible repeat (first | apply Kd.R_alloc | apply Kd.R_drewN | apply Kd.R_drew)); exact Kd.R_mono HO_901001.out (fun _ hk => ⟨hk.1.1.1, ⟨hk.1.1.2, hk.2⟩⟩)⟩, ⟨by (try simp only [hl895000_59]); (with_reducible repeat (first | apply Kd.R_alloc | apply Kd.R_drewN | apply Kd.R_drew)); exact Kd.R_mono HO918.out (fun _ hk => ⟨hk.1.1.1.2, ⟨hk.1.1.2, hk.1.2⟩⟩)⟩, ⟨by (try simp only [hl895000_59]); (with_reducible repeat (first | refine blk_drewN ?_ _ | refine blk_drew ?_ | refine blk_alloc ?_ _)); exact BK880.out⟩, ⟨by (try simp only [hl895000_59]); (with_reducible repeat (first | refine blk_drewN ?_ _ | refine blk_drew ?_ | refine blk_alloc ?_ _)); exact BK890.out⟩, ⟨by (try simp only [hl895000_59]); (with_reducible repeat (first | refine blk_drewN ?_ _ | refine blk_drew ?_ | refine blk_alloc ?_ _)); exact BK894.out⟩, ⟨by (try simp only [hl895000_59]); (with_reducible repeat (first | refine blk_drewN ?_ _ | refine blk_drew ?_ | refine blk_alloc ?_ _)); exact BK900.out⟩, ⟨by (try simp only [hl895000_59]); (with_reducible repeat (first | refine blk_drewN ?_ _ | refine blk_drew ?_ | refine blk_alloc ?_ _)); exact BK920.out⟩, ⟨by repeat (first | (with_reducible first | exact HB.out | apply below_alloc | apply pw_below_drewN | apply below_drew1 | refine below_set ?_ GE880.out | refine below_set ?_ GE890.out | refine below_set ?_ GE894.out | refine below_set ?_ GE900.out | refine below_set ?_ GE920.out) | exact HB.out)⟩⟩
                      case rest =>
                        clear HC103
                        try clear c1
                        try clear c2
                        try clear p2
                        try clear c3
                        try clear c3b0
                        try clear c4
                        try clear c5
                        try clear c6
                        try clear c7
                        try clear c8
                        try clear c9
                        try clear c10
                        try clear c11
                        try clear c12
                        try clear c13
                        try clear c14
                        try clear c19
                        try clear c20
                        try clear c25
                        try clear c26
                        try clear c27
                        try clear c28
                        try clear c32
                        try clear c33
                        try clear c34
                        try clear c38
                        try clear c39
                        try clear c40
                        try clear c41
                        try clear c43
                        try clear c44
                        try clear c45
                        try clear c46
                        try clear c47
                        try clear c48
                        try clear c49
                        try clear c51
                        try clear c52
                        try clear c55
                        try clear c58
                        try clear c65
                        try clear c66
                        try clear c67
                        try clear c70
                        try clear c70b0
                        try clear c72
                        try clear c73
                        try clear c74
                        try clear c75
                        try clear c77
                        try clear c78
                        try clear c81
                        try clear c82
                        try clear c83
                        try clear c85
                        try clear c86
                        try clear c89
                        try clear c92
                        try clear c92b0
                        try clear c93
                        try clear c94
                        try clear c95
                        try clear c100
                        try clear c100b0
                        try clear c100b1
                        try clear c104
                        try clear c105
                        try clear c106
                        try clear c111
                        try clear c112
                        try clear c118
                        try clear c119
                        try clear c120
                        try clear c121
                        try clear c125
                        try clear c126
                        try clear c127
                        try clear c128
                        try clear c129
                        try clear c131
                        try clear c132
                        try clear c133
                        try clear c136
                        try clear c137
                        try clear c138
                        try clear c139
                        try clear c141
                        try clear c142
                        try clear c143
                        try clear hcz107_0
                        try clear hcz107_1
                        try clear hcz109_0
                        try clear hcz109_1
                        try clear hcz113_0
                        try clear hcz122_0
                        try clear hcz122_1
                        try clear hcz130_0
                        try clear hcz130_1
                        try clear hcz134_0
                        try clear hcz134_1
                        try clear hcz13_0
                        try clear hcz140_0
                        try clear hcz140_1
                        try clear hcz144_0
                        try clear hcz144_1
                        try clear hcz15_0
                        try clear hcz21_0
                        try clear hcz21_1
                        try clear hcz23_0
                        try clear hcz29_0
                        try clear hcz35_0
                        try clear hcz35_1
                        try clear hcz42_0
                        try clear hcz42_1
                        try clear hcz45_0
                        try clear hcz45_1
                        try clear hcz50_0
                        try clear hcz50_1
                        try clear hcz53_0
                        try clear hcz53_1
                        try clear hcz5_0
                        try clear hcz68_0
                        try clear hcz76_0
                        try clear hcz76_1
                        try clear hcz79_0
                        try clear hcz79_1
                        try clear hcz84_0
                        try clear hcz84_1
                        try clear hcz87_0
                        try clear hcz87_1
                        try clear hcz96_0
                        try clear hcz96_1
                        try clear hcz98_0
                        try clear hcz98_1
                        try clear hfz107_0
                        try clear hfz107_1
                        try clear hfz109_0
                        try clear hfz109_1
                        try clear hfz113_0
                        try clear hfz122_0
                        try clear hfz122_1
                        try clear hfz130_0
                        try clear hfz130_1
                        try clear hfz134_0
                        try clear hfz134_1
                        try clear hfz13_0
                        try clear hfz140_0
                        try clear hfz140_1
                        try clear hfz144_0
                        try clear hfz144_1
                        try clear hfz15_0
                        try clear hfz21_0
                        try clear hfz21_1
                        try clear hfz23_0
                        try clear hfz29_0
                        try clear hfz35_0
                        try clear hfz35_1
                        try clear hfz42_0
                        try clear hfz42_1
                        try clear hfz45_0
                        try clear hfz45_1
                        try clear hfz50_0
                        try clear hfz50_1
                        try clear hfz53_0
                        try clear hfz53_1
                        try clear hfz5_0
                        try clear hfz68_0
                        try clear hfz76_0
                        try clear hfz76_1
                        try clear hfz79_0
                        try clear hfz79_1
                        try clear hfz84_0
                        try clear hfz84_1
                        try clear hfz87_0
                        try clear hfz87_1
                        try clear hfz96_0
                        try clear hfz96_1
                        try clear hfz98_0
                        try clear hfz98_1
                        try clear p2
                        obtain ⟨kq, x87_102, rfl, HA, HJ102, HO_891001, HO_895000, HO_901001, HO_921001, BK880, BK890, BK894, BK900, BK920, HB⟩ := hcut
                        have hl901001_102 := (Kd.R_reads' HO_901001.out).1
                        rw [hl901001_102] at HO_901001
                        (try simp only [hl901001_102])
                        (try simp only [hl901001_102] at BK880)
                        (try simp only [hl901001_102] at BK890)
                        (try simp only [hl901001_102] at BK894)
                        (try simp only [hl901001_102] at BK900)
                        (try simp only [hl901001_102] at BK920)
                        (try simp only [hl901001_102] at HO_891001)
                        (try simp only [hl901001_102] at HO_895000)
                        (try simp only [hl901001_102] at HO_921001)
                        cases kq with
                        | zero => exact absurd HA.out (by simp [laws_FnExactChordalSpace.j2])
                        | succ kj102 =>
                          have H := HA.out
                          clear HA
                          simp only [laws_FnExactChordalSpace.j2] at H
                          by_cases c146 : x87_102 = true
                          · subst c146
                            have H1 : (some false) = some r := by rw [if_pos rfl] at H; exact H
                            clear H
                            have H := H1
                            clear H1
                            obtain rfl := Option.some.inj H
                            go_wp2
                            go_ret
                            exact ⟨by first | rfl | (simp [errW_none, errW_some] <;> rfl) | (simp [*, errW_none, errW_some] <;> rfl), by repeat (first | (with_reducible first | exact HB.out | apply below_alloc | apply pw_below_drewN | apply below_drew1 | refine below_set ?_ GE880.out | refine below_set ?_ GE890.out | refine below_set ?_ GE894.out | refine below_set ?_ GE900.out | refine below_set ?_ GE920.out) | exact HB.out)⟩
                          · replace c146 := Bool.eq_false_iff.mpr c146
                            subst c146
                            have H1 : ((laws_heldSpace.f kj102 t895 t910 1).bind fun t922 => (if t922 < 0 then (some false) else (if t922 = t909 then (some true) else (some false)))) = some r := by rw [if_neg (show ¬ (false = true) by decide)] at H; exact H
                            clear H
                            have H := H1
                            clear H1
                            replace H := Option.bind_eq_some_iff.mp H
                            obtain ⟨t922, A1470, H⟩ := H
                            replace H : (if t922 < 0 then (some false) else (if t922 = t909 then (some true) else (some false))) = some r := H
                            have A147 := Aside0.mk A1470
                            clear A1470
                            by_cases c148 : t922 < 0
                            · rw [if_pos c148] at H
                              have c148b0 : decide (t922 < 0) = true := decide_eq_true c148
                              clear c148
                              obtain rfl := Option.some.inj H
                              have hnb149 := NB900_880.out
                              have hnc149 := NB880_900.out
                              have hnb150 := NB900_890.out
                              have hnc150 := NB890_900.out
                              have hnb151 := NB900_894.out
                              have hnc151 := NB894_900.out
                              have hnb152 := NB900_920.out
                              have hnc152 := NB920_900.out
                              have hcz153_0 : wc.cell? ⟨gb900, 0, none⟩ = some (.int .i64 t895) := (blk_cell BK900.out 0).trans rfl
                              have hcz153_1 : wc.cell? ⟨gb900, 1, none⟩ = some (.slice Ao36 t910.length co36) := (blk_cell BK900.out 1).trans rfl
                              have hfz153_0 := blk_frozen BK900.out 0
                              have hfz153_1 := blk_frozen BK900.out 1
                              go_wp2_with (first | ((with_reducible refine gate_callee (f := 26) rfl ?_); refine goesL_ (some 90) rfl rfl Try.func26 (by kernel_rfl) rfl #[.agg #[.int .i64 t895, .slice Ao36 t910.length co36], .int .i64 1] rfl (by (try simp only [List.map_toArray, List.map_cons, List.map_nil]); first | done | rfl | (simp only [List.length_drop, List.length_take]; rfl)) ?_; (with_reducible refine (laws_heldSpace.calls kj102 t895 _ _ t910 1 t922 _ ?side1 ?side2 A147.out).mono ?_); (case side1 => repeat (first | exact (Kd.R_reads' HO_901001.out).2.2 | (with_reducible refine Kd.C_alloc ?_ _) | (with_reducible refine Kd.C_drewN ?_ _) | (with_reducible refine Kd.C_drew ?_))); (case side2 => exact (Kd.R_reads' HO_901001.out).2.1); rintro e w154 ⟨rfl, hb⟩; refine ⟨_, rfl, ?_⟩; have n0_ := Aside0.mk (Kd.R_below (by (with_reducible repeat (first | apply Kd.R_alloc | apply Kd.R_drewN | apply Kd.R_drew)); exact HO_891001.out) hb); have n1_ := Aside0.mk (Kd.R_below (by (with_reducible repeat (first | apply Kd.R_alloc | apply Kd.R_drewN | apply Kd.R_drew)); exact HO_895000.out) hb); have n2_ := Aside0.mk (Kd.R_below (by (with_reducible repeat (first | apply Kd.R_alloc | apply Kd.R_drewN | apply Kd.R_drew)); exact HO_901001.out) hb); have n3_ := Aside0.mk (Kd.R_below (by (with_reducible repeat (first | apply Kd.R_alloc | apply Kd.R_drewN | apply Kd.R_drew)); exact HO_921001.out) hb); have n4_ := Aside0.mk (blk_below (g := gb880) (o := .cells #[.slice A0_0 l0_0.length c0_0] 55 (0, 0)) (by (with_reducible repeat (first | refine blk_drewN ?_ _ | refine blk_drew ?_ | refine blk_alloc ?_ _)); exact BK880.out) hb); have n5_ := Aside0.mk (blk_below (g := gb890) (o := .cells #[.int .i64 t885, .slice Ao22 t886.length co22] 28 (0, 0)) (by (with_reducible repeat (first | refine blk_drewN ?_ _ | refine blk_drew ?_ | refine blk_alloc ?_ _)); exact BK890.out) hb); have n6_ := Aside0.mk (blk_below (g := gb894) (o := .cells #[.slice Ao26 t907.length co26] 58 (0, 0)) (by (with_reducible repeat (first | refine blk_drewN ?_ _ | refine blk_drew ?_ | refine blk_alloc ?_ _)); exact BK894.out) hb); have n7_ := Aside0.mk (blk_below (g := gb900) (o := .cells #[.int .i64 t895, .slice Ao36 t910.length co36] 28 (0, 0)) (by (with_reducible repeat (first | refine blk_drewN ?_ _ | refine blk_drew ?_ | refine blk_alloc ?_ _)); exact BK900.out) hb); have n8_ := Aside0.mk (blk_below (g := gb920) (o := .cells #[.int .i64 t915, .slice Ao123 t916.length co123] 28 (0, 0)) (by (with_reducible repeat (first | refine blk_drewN ?_ _ | refine blk_drew ?_ | refine blk_alloc ?_ _)); exact BK920.out) hb); have n9_ := Aside0.mk (below_step (by repeat (first | (with_reducible first | exact HB.out | apply below_alloc | apply pw_below_drewN | apply below_drew1 | refine below_set ?_ GE880.out | refine below_set ?_ GE890.out | refine below_set ?_ GE894.out | refine below_set ?_ GE900.out | refine below_set ?_ GE920.out) | exact HB.out)) hb); clear HO_891001; clear HO_895000; clear HO_901001; clear HO_921001; clear BK880; clear BK890; clear BK894; clear BK900; clear BK920; clear HB; have HO_891001 := n0_; have HO_895000 := n1_; have HO_901001 := n2_; have HO_921001 := n3_; have BK880 := n4_; have BK890 := n5_; have BK894 := n6_; have BK900 := n7_; have BK920 := n8_; have HB := n9_; clear n0_ n1_ n2_ n3_ n4_ n5_ n6_ n7_ n8_ n9_; (try clear hb); (try clear hb2); (try clear hk); (try clear hi)))
                              go_ret
                              exact ⟨by first | rfl | (simp [errW_none, errW_some] <;> rfl) | (simp [*, errW_none, errW_some] <;> rfl), by repeat (first | (with_reducible first | exact HB.out | apply below_alloc | apply pw_below_drewN | apply below_drew1 | refine below_set ?_ GE880.out | refine below_set ?_ GE890.out | refine below_set ?_ GE894.out | refine below_set ?_ GE900.out | refine below_set ?_ GE920.out) | exact HB.out)⟩
                            · rw [if_neg c148] at H
                              have c148b0 : decide (t922 < 0) = false := decide_eq_false c148
                              clear c148
                              by_cases c155 : t922 = t909
                              · rw [if_pos c155] at H
                                have c155b0 : (t922 == t909) = true := beq_iff_eq.mpr c155
                                have c155b1 : (t922 != t909) = false := bne_eq_false_iff_eq.mpr c155
                                clear c155
                                obtain rfl := Option.some.inj H
                                have hnb156 := NB900_880.out
                                have hnc156 := NB880_900.out
                                have hnb157 := NB900_890.out
                                have hnc157 := NB890_900.out
                                have hnb158 := NB900_894.out
                                have hnc158 := NB894_900.out
                                have hnb159 := NB900_920.out
                                have hnc159 := NB920_900.out
                                have hcz160_0 : wc.cell? ⟨gb900, 0, none⟩ = some (.int .i64 t895) := (blk_cell BK900.out 0).trans rfl
                                have hcz160_1 : wc.cell? ⟨gb900, 1, none⟩ = some (.slice Ao36 t910.length co36) := (blk_cell BK900.out 1).trans rfl
                                have hfz160_0 := blk_frozen BK900.out 0
                                have hfz160_1 := blk_frozen BK900.out 1
                                go_wp2_with (first | ((with_reducible refine gate_callee (f := 26) rfl ?_); refine goesL_ (some 90) rfl rfl Try.func26 (by kernel_rfl) rfl #[.agg #[.int .i64 t895, .slice Ao36 t910.length co36], .int .i64 1] rfl (by (try simp only [List.map_toArray, List.map_cons, List.map_nil]); first | done | rfl | (simp only [List.length_drop, List.length_take]; rfl)) ?_; (with_reducible refine (laws_heldSpace.calls kj102 t895 _ _ t910 1 t922 _ ?side1 ?side2 A147.out).mono ?_); (case side1 => repeat (first | exact (Kd.R_reads' HO_901001.out).2.2 | (with_reducible refine Kd.C_alloc ?_ _) | (with_reducible refine Kd.C_drewN ?_ _) | (with_reducible refine Kd.C_drew ?_))); (case side2 => exact (Kd.R_reads' HO_901001.out).2.1); rintro e w161 ⟨rfl, hb⟩; refine ⟨_, rfl, ?_⟩; have n0_ := Aside0.mk (Kd.R_below (by (with_reducible repeat (first | apply Kd.R_alloc | apply Kd.R_drewN | apply Kd.R_drew)); exact HO_891001.out) hb); have n1_ := Aside0.mk (Kd.R_below (by (with_reducible repeat (first | apply Kd.R_alloc | apply Kd.R_drewN | apply Kd.R_drew)); exact HO_895000.out) hb); have n2_ := Aside0.mk (Kd.R_below (by (with_reducible repeat (first | apply Kd.R_alloc | apply Kd.R_drewN | apply Kd.R_drew)); exact HO_901001.out) hb); have n3_ := Aside0.mk (Kd.R_below (by (with_reducible repeat (first | apply Kd.R_alloc | apply Kd.R_drewN | apply Kd.R_drew)); exact HO_921001.out) hb); have n4_ := Aside0.mk (blk_below (g := gb880) (o := .cells #[.slice A0_0 l0_0.length c0_0] 55 (0, 0)) (by (with_reducible repeat (first | refine blk_drewN ?_ _ | refine blk_drew ?_ | refine blk_alloc ?_ _)); exact BK880.out) hb); have n5_ := Aside0.mk (blk_below (g := gb890) (o := .cells #[.int .i64 t885, .slice Ao22 t886.length co22] 28 (0, 0)) (by (with_reducible repeat (first | refine blk_drewN ?_ _ | refine blk_drew ?_ | refine blk_alloc ?_ _)); exact BK890.out) hb); have n6_ := Aside0.mk (blk_below (g := gb894) (o := .cells #[.slice Ao26 t907.length co26] 58 (0, 0)) (by (with_reducible repeat (first | refine blk_drewN ?_ _ | refine blk_drew ?_ | refine blk_alloc ?_ _)); exact BK894.out) hb); have n7_ := Aside0.mk (blk_below (g := gb900) (o := .cells #[.int .i64 t895, .slice Ao36 t910.length co36] 28 (0, 0)) (by (with_reducible repeat (first | refine blk_drewN ?_ _ | refine blk_drew ?_ | refine blk_alloc ?_ _)); exact BK900.out) hb); have n8_ := Aside0.mk (blk_below (g := gb920) (o := .cells #[.int .i64 t915, .slice Ao123 t916.length co123] 28 (0, 0)) (by (with_reducible repeat (first | refine blk_drewN ?_ _ | refine blk_drew ?_ | refine blk_alloc ?_ _)); exact BK920.out) hb); have n9_ := Aside0.mk (below_step (by repeat (first | (with_reducible first | exact HB.out | apply below_alloc | apply pw_below_drewN | apply below_drew1 | refine below_set ?_ GE880.out | refine below_set ?_ GE890.out | refine below_set ?_ GE894.out | refine below_set ?_ GE900.out | refine below_set ?_ GE920.out) | exact HB.out)) hb); clear HO_891001; clear HO_895000; clear HO_901001; clear HO_921001; clear BK880; clear BK890; clear BK894; clear BK900; clear BK920; clear HB; have HO_891001 := n0_; have HO_895000 := n1_; have HO_901001 := n2_; have HO_921001 := n3_; have BK880 := n4_; have BK890 := n5_; have BK894 := n6_; have BK900 := n7_; have BK920 := n8_; have HB := n9_; clear n0_ n1_ n2_ n3_ n4_ n5_ n6_ n7_ n8_ n9_; (try clear hb); (try clear hb2); (try clear hk); (try clear hi)))
                                go_ret
                                exact ⟨by first | rfl | (simp [errW_none, errW_some] <;> rfl) | (simp [*, errW_none, errW_some] <;> rfl), by repeat (first | (with_reducible first | exact HB.out | apply below_alloc | apply pw_below_drewN | apply below_drew1 | refine below_set ?_ GE880.out | refine below_set ?_ GE890.out | refine below_set ?_ GE894.out | refine below_set ?_ GE900.out | refine below_set ?_ GE920.out) | exact HB.out)⟩
                              · rw [if_neg c155] at H
                                have c155b0 : (t922 == t909) = false := beq_eq_false_iff_ne.mpr c155
                                have c155b1 : (t922 != t909) = true := bne_iff_ne.mpr c155
                                obtain rfl := Option.some.inj H
                                have hnb162 := NB900_880.out
                                have hnc162 := NB880_900.out
                                have hnb163 := NB900_890.out
                                have hnc163 := NB890_900.out
                                have hnb164 := NB900_894.out
                                have hnc164 := NB894_900.out
                                have hnb165 := NB900_920.out
                                have hnc165 := NB920_900.out
                                have hcz166_0 : wc.cell? ⟨gb900, 0, none⟩ = some (.int .i64 t895) := (blk_cell BK900.out 0).trans rfl
                                have hcz166_1 : wc.cell? ⟨gb900, 1, none⟩ = some (.slice Ao36 t910.length co36) := (blk_cell BK900.out 1).trans rfl
                                have hfz166_0 := blk_frozen BK900.out 0
                                have hfz166_1 := blk_frozen BK900.out 1
                                go_wp2_with (first | ((with_reducible refine gate_callee (f := 26) rfl ?_); refine goesL_ (some 90) rfl rfl Try.func26 (by kernel_rfl) rfl #[.agg #[.int .i64 t895, .slice Ao36 t910.length co36], .int .i64 1] rfl (by (try simp only [List.map_toArray, List.map_cons, List.map_nil]); first | done | rfl | (simp only [List.length_drop, List.length_take]; rfl)) ?_; (with_reducible refine (laws_heldSpace.calls kj102 t895 _ _ t910 1 t922 _ ?side1 ?side2 A147.out).mono ?_); (case side1 => repeat (first | exact (Kd.R_reads' HO_901001.out).2.2 | (with_reducible refine Kd.C_alloc ?_ _) | (with_reducible refine Kd.C_drewN ?_ _) | (with_reducible refine Kd.C_drew ?_))); (case side2 => exact (Kd.R_reads' HO_901001.out).2.1); rintro e w167 ⟨rfl, hb⟩; refine ⟨_, rfl, ?_⟩; have n0_ := Aside0.mk (Kd.R_below (by (with_reducible repeat (first | apply Kd.R_alloc | apply Kd.R_drewN | apply Kd.R_drew)); exact HO_891001.out) hb); have n1_ := Aside0.mk (Kd.R_below (by (with_reducible repeat (first | apply Kd.R_alloc | apply Kd.R_drewN | apply Kd.R_drew)); exact HO_895000.out) hb); have n2_ := Aside0.mk (Kd.R_below (by (with_reducible repeat (first | apply Kd.R_alloc | apply Kd.R_drewN | apply Kd.R_drew)); exact HO_901001.out) hb); have n3_ := Aside0.mk (Kd.R_below (by (with_reducible repeat (first | apply Kd.R_alloc | apply Kd.R_drewN | apply Kd.R_drew)); exact HO_921001.out) hb); have n4_ := Aside0.mk (blk_below (g := gb880) (o := .cells #[.slice A0_0 l0_0.length c0_0] 55 (0, 0)) (by (with_reducible repeat (first | refine blk_drewN ?_ _ | refine blk_drew ?_ | refine blk_alloc ?_ _)); exact BK880.out) hb); have n5_ := Aside0.mk (blk_below (g := gb890) (o := .cells #[.int .i64 t885, .slice Ao22 t886.length co22] 28 (0, 0)) (by (with_reducible repeat (first | refine blk_drewN ?_ _ | refine blk_drew ?_ | refine blk_alloc ?_ _)); exact BK890.out) hb); have n6_ := Aside0.mk (blk_below (g := gb894) (o := .cells #[.slice Ao26 t907.length co26] 58 (0, 0)) (by (with_reducible repeat (first | refine blk_drewN ?_ _ | refine blk_drew ?_ | refine blk_alloc ?_ _)); exact BK894.out) hb); have n7_ := Aside0.mk (blk_below (g := gb900) (o := .cells #[.int .i64 t895, .slice Ao36 t910.length co36] 28 (0, 0)) (by (with_reducible repeat (first | refine blk_drewN ?_ _ | refine blk_drew ?_ | refine blk_alloc ?_ _)); exact BK900.out) hb); have n8_ := Aside0.mk (blk_below (g := gb920) (o := .cells #[.int .i64 t915, .slice Ao123 t916.length co123] 28 (0, 0)) (by (with_reducible repeat (first | refine blk_drewN ?_ _ | refine blk_drew ?_ | refine blk_alloc ?_ _)); exact BK920.out) hb); have n9_ := Aside0.mk (below_step (by repeat (first | (with_reducible first | exact HB.out | apply below_alloc | apply pw_below_drewN | apply below_drew1 | refine below_set ?_ GE880.out | refine below_set ?_ GE890.out | refine below_set ?_ GE894.out | refine below_set ?_ GE900.out | refine below_set ?_ GE920.out) | exact HB.out)) hb); clear HO_891001; clear HO_895000; clear HO_901001; clear HO_921001; clear BK880; clear BK890; clear BK894; clear BK900; clear BK920; clear HB; have HO_891001 := n0_; have HO_895000 := n1_; have HO_901001 := n2_; have HO_921001 := n3_; have BK880 := n4_; have BK890 := n5_; have BK894 := n6_; have BK900 := n7_; have BK920 := n8_; have HB := n9_; clear n0_ n1_ n2_ n3_ n4_ n5_ n6_ n7_ n8_ n9_; (try clear hb); (try clear hb2); (try clear hk); (try clear hi)))
                                go_ret
                                exact ⟨by first | rfl | (simp [errW_none, errW_some] <;> rfl) | (simp [*, errW_none, errW_some] <;> rfl), by repeat (first | (with_reducible first | exact HB.out | apply below_alloc | apply pw_below_drewN | apply below_drew1 | refine below_set ?_ GE880.out | refine below_set ?_ GE890.out | refine below_set ?_ GE894.out | refine below_set ?_ GE900.out | refine below_set ?_ GE920.out) | exact HB.out)⟩
                    · rw [if_neg c100] at H
                      have c100b0 : (t911 == t909) = false := beq_eq_false_iff_ne.mpr c100
                      have c100b1 : (t911 != t909) = true := bne_iff_ne.mpr c100
                      obtain rfl := Option.some.inj H
                      have hnb168 := NB900_880.out
                      have hnc168 := NB880_900.out
                      have hnb169 := NB900_890.out
                      have hnc169 := NB890_900.out
                      have hnb170 := NB900_894.out
                      have hnc170 := NB894_900.out
                      have hcz171_0 : wc.cell? ⟨gb900, 0, none⟩ = some (.int .i64 t895) := (blk_cell BK900.out 0).trans rfl
                      have hcz171_1 : wc.cell? ⟨gb900, 1, none⟩ = some (.slice Ao36 t896.length co36) := (blk_cell BK900.out 1).trans rfl
                      have hfz171_0 := blk_frozen BK900.out 0
                      have hfz171_1 := blk_frozen BK900.out 1
                      go_wp2_with (first | ((with_reducible refine gate_callee (f := 25) rfl ?_); refine goesL_ (some 64) rfl rfl Try.func25 (by kernel_rfl) rfl #[.agg #[.int .i64 t895, .slice Ao36 t896.length co36], .int .i64 1] rfl (by (try simp only [List.map_toArray, List.map_cons, List.map_nil]); first | done | rfl | (simp only [List.length_drop, List.length_take]; rfl)) ?_; (with_reducible refine (laws_markSpace.calls kj59 t895 (fun k_ => some k_ = (.slice Ao36 t896.length co36 : Value).ownBlock) (.slice Ao36 t896.length co36) t896 1 t909 t910 w _ ?side1 ?side2 A90.out).mono ?_); (case side1 => repeat (first | (with_reducible first | exact HB.out | apply below_alloc | apply pw_below_drewN | apply below_drew1 | refine below_set ?_ GE880.out | refine below_set ?_ GE890.out | refine below_set ?_ GE894.out | refine below_set ?_ GE900.out) | exact HB.out)); (case side2 => exact Kd.R_tight rfl HO_901001.out); rintro e w172 ⟨rfl, hy0, hb, hkp⟩; refine ⟨_, rfl, ?_⟩; have n0_ := Aside0.mk (Kd.R_mono (ok' := fun k_ => some k_ ≠ (.slice Ao26 t907.length co26 : Value).ownBlock ∧ some k_ ≠ (.slice Ao36 t896.length co36 : Value).ownBlock) (Kd.R_keptB (HO_891001.out) hkp (fun k_ hk_ hs_ => (hk_.2) hs_)) (fun k_ hk_ => ⟨hk_.1.1, hk_.1.2⟩)); have n1_ := Aside0.mk (Kd.R_mono (ok' := fun k_ => some k_ ≠ (.slice Ao22 t886.length co22 : Value).ownBlock ∧ some k_ ≠ (.slice Ao36 t896.length co36 : Value).ownBlock) (Kd.R_keptB (HO_895000.out) hkp (fun k_ hk_ hs_ => (hk_.2) hs_)) (fun k_ hk_ => ⟨hk_.1.1, hk_.1.2⟩)); have n2_ := Aside0.mk (Kd.R_reok rfl hy0 (fun k_ e_ => HO_901001.out.1 k_ e_)); have n3_ := Aside0.mk (blk_kept (by (with_reducible repeat (first | refine blk_drewN ?_ _ | refine blk_drew ?_ | refine blk_alloc ?_ _)); exact BK880.out) hkp (fun hs_ => (fun e_ => (Kd.R_ne HO_901001.out BK880.out (by decide)) e_) hs_)); have n4_ := Aside0.mk (blk_kept (by (with_reducible repeat (first | refine blk_drewN ?_ _ | refine blk_drew ?_ | refine blk_alloc ?_ _)); exact BK890.out) hkp (fun hs_ => (fun e_ => (Kd.R_ne HO_901001.out BK890.out (by decide)) e_) hs_)); have n5_ := Aside0.mk (blk_kept (by (with_reducible repeat (first | refine blk_drewN ?_ _ | refine blk_drew ?_ | refine blk_alloc ?_ _)); exact BK894.out) hkp (fun hs_ => (fun e_ => (Kd.R_ne HO_901001.out BK894.out (by decide)) e_) hs_)); have n6_ := Aside0.mk (blk_kept (by (with_reducible repeat (first | refine blk_drewN ?_ _ | refine blk_drew ?_ | refine blk_alloc ?_ _)); exact BK900.out) hkp (fun hs_ => (fun e_ => (Kd.R_ne HO_901001.out BK900.out (by decide)) e_) hs_)); have n7_ := Aside0.mk (hb); clear HO_891001; clear HO_895000; clear HO_901001; clear BK880; clear BK890; clear BK894; clear BK900; clear HB; have HO_891001 := n0_; have HO_895000 := n1_; have HO_901001 := n2_; have BK880 := n3_; have BK890 := n4_; have BK894 := n5_; have BK900 := n6_; have HB := n7_; clear n0_ n1_ n2_ n3_ n4_ n5_ n6_ n7_; (try clear hb); (try clear hkp); (try clear hy0); have hcz173_0 : w172.cell? ⟨gb900, 0, none⟩ = some (.int .i64 t895) := (blk_cell BK900.out 0).trans rfl; have hcz173_1 : w172.cell? ⟨gb900, 1, none⟩ = some (.slice Ao36 t896.length co36) := (blk_cell BK900.out 1).trans rfl; have hfz173_0 := blk_frozen BK900.out 0; have hfz173_1 := blk_frozen BK900.out 1) | ((with_reducible refine gate_callee (f := 26) rfl ?_); refine goesL_ (some 67) rfl rfl Try.func26 (by kernel_rfl) rfl #[.agg #[.int .i64 t895, .slice Ao36 t910.length co36], .int .i64 1] rfl (by (try simp only [List.map_toArray, List.map_cons, List.map_nil]); first | done | (rw [show t910.length = t896.length from (Kd.R_reads' HO_901001.out).1.symm] <;> rfl) | rfl | (simp only [List.length_drop, List.length_take]; rfl)) ?_; (with_reducible refine (laws_heldSpace.calls kj59 t895 _ _ t910 1 t911 _ ?side1 ?side2 A91.out).mono ?_); (case side1 => repeat (first | exact (Kd.R_reads' HO_901001.out).2.2 | (with_reducible refine Kd.C_alloc ?_ _) | (with_reducible refine Kd.C_drewN ?_ _) | (with_reducible refine Kd.C_drew ?_))); (case side2 => rw [show t910.length = t896.length from (Kd.R_reads' HO_901001.out).1.symm]; exact (Kd.R_reads' HO_901001.out).2.1); rintro e w174 ⟨rfl, hb⟩; refine ⟨_, rfl, ?_⟩; have n0_ := Aside0.mk (Kd.R_below (by (with_reducible repeat (first | apply Kd.R_alloc | apply Kd.R_drewN | apply Kd.R_drew)); exact HO_891001.out) hb); have n1_ := Aside0.mk (Kd.R_below (by (with_reducible repeat (first | apply Kd.R_alloc | apply Kd.R_drewN | apply Kd.R_drew)); exact HO_895000.out) hb); have n2_ := Aside0.mk (Kd.R_below (by (with_reducible repeat (first | apply Kd.R_alloc | apply Kd.R_drewN | apply Kd.R_drew)); exact HO_901001.out) hb); have n3_ := Aside0.mk (blk_below (g := gb880) (o := .cells #[.slice A0_0 l0_0.length c0_0] 55 (0, 0)) (by (with_reducible repeat (first | refine blk_drewN ?_ _ | refine blk_drew ?_ | refine blk_alloc ?_ _)); exact BK880.out) hb); have n4_ := Aside0.mk (blk_below (g := gb890) (o := .cells #[.int .i64 t885, .slice Ao22 t886.length co22] 28 (0, 0)) (by (with_reducible repeat (first | refine blk_drewN ?_ _ | refine blk_drew ?_ | refine blk_alloc ?_ _)); exact BK890.out) hb); have n5_ := Aside0.mk (blk_below (g := gb894) (o := .cells #[.slice Ao26 t907.length co26] 58 (0, 0)) (by (with_reducible repeat (first | refine blk_drewN ?_ _ | refine blk_drew ?_ | refine blk_alloc ?_ _)); exact BK894.out) hb); have n6_ := Aside0.mk (blk_below (g := gb900) (o := .cells #[.int .i64 t895, .slice Ao36 t896.length co36] 28 (0, 0)) (by (with_reducible repeat (first | refine blk_drewN ?_ _ | refine blk_drew ?_ | refine blk_alloc ?_ _)); exact BK900.out) hb); have n7_ := Aside0.mk (below_step (by repeat (first | (with_reducible first | exact HB.out | apply below_alloc | apply pw_below_drewN | apply below_drew1 | refine below_set ?_ GE880.out | refine below_set ?_ GE890.out | refine below_set ?_ GE894.out | refine below_set ?_ GE900.out) | exact HB.out)) hb); clear HO_891001; clear HO_895000; clear HO_901001; clear BK880; clear BK890; clear BK894; clear BK900; clear HB; have HO_891001 := n0_; have HO_895000 := n1_; have HO_901001 := n2_; have BK880 := n3_; have BK890 := n4_; have BK894 := n5_; have BK900 := n6_; have HB := n7_; clear n0_ n1_ n2_ n3_ n4_ n5_ n6_ n7_; (try clear hb); (try clear hb2); (try clear hk); (try clear hi)))
                      go_ret
                      exact ⟨by first | rfl | (simp [errW_none, errW_some] <;> rfl) | (simp [*, errW_none, errW_some] <;> rfl), by repeat (first | (with_reducible first | exact HB.out | apply below_alloc | apply pw_below_drewN | apply below_drew1 | refine below_set ?_ GE880.out | refine below_set ?_ GE890.out | refine below_set ?_ GE894.out | refine below_set ?_ GE900.out) | exact HB.out)⟩
          · replace c58 := Bool.eq_false_iff.mpr c58
            subst c58
            have H1 : (some false) = some r := by rw [if_neg (show ¬ (false = true) by decide)] at H; exact H
            clear H
            have H := H1
            clear H1
            obtain rfl := Option.some.inj H
            try go_wp2
            have n0_ := Aside0.mk (Kd.R_drew HO_891001.out)
            have n1_ := Aside0.mk (Kd.R_drew HO_895000.out)
            have n2_ := Aside0.mk (Kd.R_drew HO_901001.out)
            have n3_ := Aside0.mk (blk_drew BK880.out)
            have n4_ := Aside0.mk (blk_drew BK890.out)
            have n5_ := Aside0.mk (blk_drew BK894.out)
            have n6_ := Aside0.mk (blk_drew BK900.out)
            have n7_ := Aside0.mk (below_drew1 HB.out)
            clear HO_891001
            clear HO_895000
            clear HO_901001
            clear BK880
            clear BK890
            clear BK894
            clear BK900
            clear HB
            have HO_891001 := n0_
            have HO_895000 := n1_
            have HO_901001 := n2_
            have BK880 := n3_
            have BK890 := n4_
            have BK894 := n5_
            have BK900 := n6_
            have HB := n7_
            clear n0_ n1_ n2_ n3_ n4_ n5_ n6_ n7_
            refine start_ (n := 5) (S := fun w' => w'.cell? ⟨gb894, 0, none⟩ = some (.slice Ao26 t891.length co26) ∧ w'.cell? ⟨gb880, 0, none⟩ = some (.slice A0_0 l0_0.length c0_0)) (ds := []) #[false, false, false, false, false] (by kernel_rfl) rfl rfl ⟨(blk_cell BK894.out 0).trans rfl, (blk_cell BK880.out 0).trans rfl⟩ (fun hHeld => ?_)
            generalize wc.drew = w175 at HO_891001 HO_895000 HO_901001 BK880 BK890 BK894 BK900 HB hHeld ⊢
            refine take_ (i := 0) (N := some 41) (v := ?_) (a' := ?_) #[true, false, false, false, false] rfl rfl (by kernel_rfl) (fun _ _ _ h => h) (Or.inl ⟨by rfl, ?_⟩) hHeld ?_ ?_
            rotate_left
            · rintro w' ⟨s0, s1⟩
              go_simp
              with_reducible rfl
            rotate_left
            · simp only [Act.put, List.setIfInBounds_toArray, List.set_cons_zero, List.set_cons_succ, i64_w, i32_w]
              rfl
            refine take_ (i := 1) (N := some 42) (v := ?_) (a' := ?_) #[true, true, false, false, false] rfl rfl (by kernel_rfl) (fun _ _ _ h => h) (Or.inl ⟨by rfl, ?_⟩) hHeld ?_ ?_
            rotate_left
            · rintro w' ⟨s0, s1⟩
              go_simp
              with_reducible rfl
            rotate_left
            · simp only [Act.put, List.setIfInBounds_toArray, List.set_cons_zero, List.set_cons_succ, i64_w, i32_w]
              rfl
            refine one_ (i := 2) (N := some 43) #[true, true, true, false, false] rfl rfl (by kernel_rfl) (by decide) (fun K hK => ?_)
            refine goes_ Try.func45 (by kernel_rfl) rfl #[.agg #[.slice A0_0 l0_0.length c0_0]] (by rfl) rfl rfl (by (try simp only [List.map_toArray, List.map_cons, List.map_nil]); first | done | rfl | (simp only [List.length_drop, List.length_take]; rfl)) ?_
            with_reducible refine (laws_toNet.calls kj10 _ _ l0_0 t902 _ ?side1 ?side2 A56.out).mono ?_
            (case side1 => repeat (first | exact (Kd.C_below HR0_0.out HB.out) | (with_reducible refine Kd.C_alloc ?_ _) | (with_reducible refine Kd.C_drewN ?_ _) | (with_reducible refine Kd.C_drew ?_)))
            (case side2 => exact HC0_0.out)
            rintro e w176 ⟨v903, rfl, ho0, hb⟩
            refine ⟨_, rfl, ?_⟩
            have n0_ := Aside0.mk (Kd.R_elder' (by (with_reducible repeat (first | apply Kd.R_alloc | apply Kd.R_drewN | apply Kd.R_drew)); exact HO_891001.out) (Kd.R_base ho0) hb)
            have n1_ := Aside0.mk (Kd.R_elder' (by (with_reducible repeat (first | apply Kd.R_alloc | apply Kd.R_drewN | apply Kd.R_drew)); exact HO_895000.out) (Kd.R_base ho0) hb)
            have n2_ := Aside0.mk (Kd.R_elder' (by (with_reducible repeat (first | apply Kd.R_alloc | apply Kd.R_drewN | apply Kd.R_drew)); exact HO_901001.out) (Kd.R_base ho0) hb)
            have n3_ := Aside0.mk (Kd.R_lower (Kd.R_new' (Kd.R_new' (Kd.R_new' ho0 (Kd.R_lt (by (with_reducible repeat (first | apply Kd.R_alloc | apply Kd.R_drewN | apply Kd.R_drew)); exact HO_891001.out))) (Kd.R_lt (by (with_reducible repeat (first | apply Kd.R_alloc | apply Kd.R_drewN | apply Kd.R_drew)); exact HO_895000.out))) (Kd.R_lt (by (with_reducible repeat (first | apply Kd.R_alloc | apply Kd.R_drewN | apply Kd.R_drew)); exact HO_901001.out))) (below_size (by repeat (first | (with_reducible first | exact HB.out | apply below_alloc | apply pw_below_drewN | apply below_drew1 | refine below_set ?_ GE880.out | refine below_set ?_ GE890.out | refine below_set ?_ GE894.out | refine below_set ?_ GE900.out) | exact HB.out))))
            have n4_ := Aside0.mk (blk_below (g := gb880) (o := .cells #[.slice A0_0 l0_0.length c0_0] 55 (0, 0)) (by (with_reducible repeat (first | refine blk_drewN ?_ _ | refine blk_drew ?_ | refine blk_alloc ?_ _)); exact BK880.out) hb)
            have n5_ := Aside0.mk (blk_below (g := gb890) (o := .cells #[.int .i64 t885, .slice Ao22 t886.length co22] 28 (0, 0)) (by (with_reducible repeat (first | refine blk_drewN ?_ _ | refine blk_drew ?_ | refine blk_alloc ?_ _)); exact BK890.out) hb)
            have n6_ := Aside0.mk (blk_below (g := gb894) (o := .cells #[.slice Ao26 t891.length co26] 58 (0, 0)) (by (with_reducible repeat (first | refine blk_drewN ?_ _ | refine blk_drew ?_ | refine blk_alloc ?_ _)); exact BK894.out) hb)
            have n7_ := Aside0.mk (blk_below (g := gb900) (o := .cells #[.int .i64 t895, .slice Ao36 t896.length co36] 28 (0, 0)) (by (with_reducible repeat (first | refine blk_drewN ?_ _ | refine blk_drew ?_ | refine blk_alloc ?_ _)); exact BK900.out) hb)
            have n8_ := Aside0.mk (below_step (by repeat (first | (with_reducible first | exact HB.out | apply below_alloc | apply pw_below_drewN | apply below_drew1 | refine below_set ?_ GE880.out | refine below_set ?_ GE890.out | refine below_set ?_ GE894.out | refine below_set ?_ GE900.out) | exact HB.out)) hb)
            clear HO_891001
            clear HO_895000
            clear HO_901001
            clear BK880
            clear BK890
            clear BK894
            clear BK900
            clear HB
            have HO_891001 := n0_
            have HO_895000 := n1_
            have HO_901001 := n2_
            have HO904 := n3_
            have BK880 := n4_
            have BK890 := n5_
            have BK894 := n6_
            have BK900 := n7_
            have HB := n8_
            clear n0_ n1_ n2_ n3_ n4_ n5_ n6_ n7_ n8_
            (try clear hb)
            (try clear hb2)
            (try clear hk)
            (try clear hi)
            (try clear ho0)
            obtain ⟨Ao177, co177, eo177⟩ := Kd.R_slice HO904.out
            (first | subst eo177 | (injection eo177 with f1_ f2_ f3_; have f4_ := f1_.symm; have f5_ := f3_.symm; clear f1_ f2_ f3_; subst f4_; subst f5_))
            refine hK.out _ _ ⟨(blk_cell BK894.out 0).trans rfl, (blk_cell BK880.out 0).trans rfl⟩ (fun hHeld => ?_)
            clear hK K
            refine norm_ (a' := ?_) ?_ ?_
            rotate_left
            · show Act.put _ (some 43) _ = _
              simp only [Act.put, List.setIfInBounds_toArray, List.set_cons_zero, List.set_cons_succ, i64_w, i32_w]
              rfl
            refine one_ (i := 3) (N := some 44) #[true, true, true, true, false] rfl rfl (by kernel_rfl) (by decide) (fun K hK => ?_)
            refine goes_ Try.func47 (by kernel_rfl) rfl #[.agg #[.slice Ao26 t891.length co26], .agg #[.slice Ao177 t902.length co177]] (by rfl) rfl rfl (by (try simp only [List.map_toArray, List.map_cons, List.map_nil]); first | done | rfl | (simp only [List.length_drop, List.length_take]; rfl)) ?_
            with_reducible refine (laws_eqNet.calls kj10 _ _ t891 _ _ t902 false _ ?side1 ?side2 ?side3 ?side4 A57.out).mono ?_
            (case side1 => repeat (first | exact (Kd.R_reads' HO_895000.out).2.2 | (with_reducible refine Kd.C_alloc ?_ _) | (with_reducible refine Kd.C_drewN ?_ _) | (with_reducible refine Kd.C_drew ?_)))
            (case side2 => exact (Kd.R_reads' HO_895000.out).2.1)
            (case side3 => repeat (first | exact (Kd.R_reads' HO904.out).2.2 | (with_reducible refine Kd.C_alloc ?_ _) | (with_reducible refine Kd.C_drewN ?_ _) | (with_reducible refine Kd.C_drew ?_)))
            (case side4 => exact (Kd.R_reads' HO904.out).2.1)
            rintro e w178 ⟨rfl, hb⟩
            refine ⟨_, rfl, ?_⟩
            have n0_ := Aside0.mk (Kd.R_below (by (with_reducible repeat (first | apply Kd.R_alloc | apply Kd.R_drewN | apply Kd.R_drew)); exact HO_891001.out) hb)
            have n1_ := Aside0.mk (Kd.R_below (by (with_reducible repeat (first | apply Kd.R_alloc | apply Kd.R_drewN | apply Kd.R_drew)); exact HO_895000.out) hb)
            have n2_ := Aside0.mk (Kd.R_below (by (with_reducible repeat (first | apply Kd.R_alloc | apply Kd.R_drewN | apply Kd.R_drew)); exact HO_901001.out) hb)
            have n3_ := Aside0.mk (Kd.R_below (by (with_reducible repeat (first | apply Kd.R_alloc | apply Kd.R_drewN | apply Kd.R_drew)); exact HO904.out) hb)
            have n4_ := Aside0.mk (blk_below (g := gb880) (o := .cells #[.slice A0_0 l0_0.length c0_0] 55 (0, 0)) (by (with_reducible repeat (first | refine blk_drewN ?_ _ | refine blk_drew ?_ | refine blk_alloc ?_ _)); exact BK880.out) hb)
            have n5_ := Aside0.mk (blk_below (g := gb890) (o := .cells #[.int .i64 t885, .slice Ao22 t886.length co22] 28 (0, 0)) (by (with_reducible repeat (first | refine blk_drewN ?_ _ | refine blk_drew ?_ | refine blk_alloc ?_ _)); exact BK890.out) hb)
            have n6_ := Aside0.mk (blk_below (g := gb894) (o := .cells #[.slice Ao26 t891.length co26] 58 (0, 0)) (by (with_reducible repeat (first | refine blk_drewN ?_ _ | refine blk_drew ?_ | refine blk_alloc ?_ _)); exact BK894.out) hb)
            have n7_ := Aside0.mk (blk_below (g := gb900) (o := .cells #[.int .i64 t895, .slice Ao36 t896.length co36] 28 (0, 0)) (by (with_reducible repeat (first | refine blk_drewN ?_ _ | refine blk_drew ?_ | refine blk_alloc ?_ _)); exact BK900.out) hb)
            have n8_ := Aside0.mk (below_step (by repeat (first | (with_reducible first | exact HB.out | apply below_alloc | apply pw_below_drewN | apply below_drew1 | refine below_set ?_ GE880.out | refine below_set ?_ GE890.out | refine below_set ?_ GE894.out | refine below_set ?_ GE900.out) | exact HB.out)) hb)
            clear HO_891001
            clear HO_895000
            clear HO_901001
            clear HO904
            clear BK880
            clear BK890
            clear BK894
            clear BK900
            clear HB
            have HO_891001 := n0_
            have HO_895000 := n1_
            have HO_901001 := n2_
            have HO904 := n3_
            have BK880 := n4_
            have BK890 := n5_
            have BK894 := n6_
            have BK900 := n7_
            have HB := n8_
            clear n0_ n1_ n2_ n3_ n4_ n5_ n6_ n7_ n8_
            (try clear hb)
            (try clear hb2)
            (try clear hk)
            (try clear hi)
            refine hK.out _ _ ⟨(blk_cell BK894.out 0).trans rfl, (blk_cell BK880.out 0).trans rfl⟩ (fun hHeld => ?_)
            clear hK K
            refine norm_ (a' := ?_) ?_ ?_
            rotate_left
            · show Act.put _ (some 44) _ = _
              simp only [Act.put, List.setIfInBounds_toArray, List.set_cons_zero, List.set_cons_succ, i64_w, i32_w]
              rfl
            refine pure_ (i := 4) (N := some 45) (v := ?_) (a' := ?_) #[true, true, true, true, true] rfl rfl (by kernel_rfl) (fun _ _ _ h => h) (Or.inl ⟨by rfl, ?_⟩) ?_ ?_
            rotate_left
            · intro w'
              go_simp
              with_reducible rfl
            rotate_left
            · simp only [Act.put, List.setIfInBounds_toArray, List.set_cons_zero, List.set_cons_succ, i64_w, i32_w]
              rfl
            refine done_ (by kernel_rfl) ?_
            try go_wp2
            go_ret
            exact ⟨by first | rfl | (simp [errW_none, errW_some] <;> rfl) | (simp [*, errW_none, errW_some] <;> rfl), by repeat (first | (with_reducible first | exact HB.out | apply below_alloc | apply pw_below_drewN | apply below_drew1 | refine below_set ?_ GE880.out | refine below_set ?_ GE890.out | refine below_set ?_ GE894.out | refine below_set ?_ GE900.out) | exact HB.out)⟩

/-- THE ONE PURE STATEMENT of laws_FnExactChordalSpace. -/
def laws_FnExactChordalSpace.Pure : Prop := ∀ (l0_0 : List Int), l0_0.length ≤ maxLen → (∀ x ∈ l0_0, (Lit.int .i64 x).wf = true) → ∃ k, laws_FnExactChordalSpace.f k l0_0 = some true
theorem laws_FnExactChordalSpace.walk (P : laws_FnExactChordalSpace.Pure) (A0_0 : Option Addr) (c0_0 : Nat) (l0_0 : List Int) (w : World) (hr0_0 : Kd.C (Kd.int .i64) w A0_0 l0_0.length l0_0) (hc0_0 : l0_0.length ≤ c0_0) (hm0_0 : l0_0.length ≤ maxLen) (hw0_0 : ∀ x ∈ l0_0, (Lit.int .i64 x).wf = true) :
    Calls Try.prog 10 #[.agg #[.slice A0_0 l0_0.length c0_0]] w fun e w' => e = .returned (.bool true) ∧ Below w.heap.size w w' := by
  obtain ⟨k, h⟩ := P l0_0 hm0_0 hw0_0
  refine (laws_FnExactChordalSpace.calls k A0_0 c0_0 l0_0 true w hr0_0 hc0_0 h).mono ?_
  rintro e w' ⟨rfl, hd⟩
  exact ⟨rfl, hd⟩

end Go.Proofs.Ytnpfkbfmipnofaa.P
