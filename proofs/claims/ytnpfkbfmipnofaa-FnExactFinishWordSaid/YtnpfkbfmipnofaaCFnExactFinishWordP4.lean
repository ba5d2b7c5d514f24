/- Functions of the program as plain Lean functions, each with a proof that the Go code computes it; written by a program of this session. Conditions: as each theorem states. -/
import Derived.Test.YtnpfkbfmipnofaaCFnExactFinishWordP3
namespace Go.Proofs.Ytnpfkbfmipnofaa.P
open Go.RowKit Go.Proofs.YtnpfkbfmipnofaaW.PrintWords Go.Proofs.YtnpfkbfmipnofaaW.PrintLast Go.Proofs.YtnpfkbfmipnofaaW.PrintMore
attribute [local go_sem] max2_int min2_int max_two min_two max_three min_three max_four min_four   -- for this text's walks alone
set_option linter.unusedVariables false
set_option linter.unusedSimpArgs false

/-! ### laws_FnExactFinishWord: function 12 -/
mutual
def laws_FnExactFinishWord.j0 : Nat → List Int → List Int → Bool → List Int → List Int → Bool → Bool → Int → List Int → Int → List Int → Option (Bool)
  | 0, _, _, _, _, _, _, _, _, _, _, _ => none
  | k + 1, x1, x6, x7, x9, x10, x11, x51, x1060000, x1060001, x1077000, x1077001 => if x51 = true then (some false) else ((laws_toSpace.f k x1060000 x1060001).bind fun bt1085 => ((laws_eqSpace.f k x1077000 x1077001 bt1085.1 bt1085.2).bind fun t1089 => (if t1089 = true then ((laws_toIntS.f k x1).bind fun t1090 => ((laws_eqIntS.f k x9 t1090).bind fun t1093 => (if t1093 = true then ((laws_markSpace.f k x1077000 x1077001 1).bind fun bt1094 => ((laws_markIntS.f k x9 bt1094.1).bind fun bt1096 => (if bt1096.1 < 0 then (laws_FnExactFinishWord.j1 k x1 x6 x7 x10 true x1060000 x1060001) else ((laws_eqIntS.f k x10 x6).bind fun t1098 => (if t1098 = true then (laws_FnExactFinishWord.j1 k x1 x6 x7 x10 (x11 != x7) x1060000 x1060001) else (laws_FnExactFinishWord.j1 k x1 x6 x7 x10 true x1060000 x1060001)))))) else (some false)))) else (some false))))
def laws_FnExactFinishWord.j1 : Nat → List Int → List Int → Bool → List Int → Bool → Int → List Int → Option (Bool)
  | 0, _, _, _, _, _, _, _ => none
  | k + 1, x1, x6, x7, x10, x80, x1060000, x1060001 => if x80 = true then (some false) else ((laws_markIntS.f k x10 1).bind fun bt1099 => ((laws_heldIntS.f k bt1099.2 1).bind fun t1101 => (if t1101 < 0 then (some false) else (if t1101 = bt1099.1 then ((laws_toSpace.f k x1060000 x1060001).bind fun bt1102 => ((laws_toIntS.f k x1).bind fun t1106 => ((impl_FinishWord.f k bt1102.1 bt1102.2 t1106).bind fun bt1109 => ((laws_eqIntS.f k bt1109.1 x6).bind fun t1113 => (if t1113 = true then (laws_FnExactFinishWord.j2 k bt1099.2 bt1099.1 (bt1109.2 != x7)) else (laws_FnExactFinishWord.j2 k bt1099.2 bt1099.1 true)))))) else (some false)))))
def laws_FnExactFinishWord.j2 : Nat → List Int → Int → Bool → Option (Bool)
  | 0, _, _, _ => none
  | k + 1, x10, x13, x108 => if x108 = true then (some false) else ((laws_heldIntS.f k x10 1).bind fun t1114 => (if t1114 < 0 then (some false) else (if t1114 = x13 then (some true) else (some false))))
end
def laws_FnExactFinishWord.f (k : Nat) (a0_0 : Int) (l0_1 : List Int) (l1 : List Int) : Option (Bool) := if (l1.length : Int) > 1048576 then (some true) else ((laws_szSpace.f a0_0 l0_1 1048576).bind fun t1060 => (if t1060 < 0 then (some true) else ((laws_toSpace.f k a0_0 l0_1).bind fun bt1061 => ((laws_toIntS.f k l1).bind fun t1065 => ((spec_FinishWord.f k bt1061.1 bt1061.2 t1065).bind fun bt1068 => ((laws_toSpace.f k a0_0 l0_1).bind fun bt1072 => ((laws_toIntS.f k l1).bind fun t1077 => ((impl_FinishWord.f k bt1072.1 bt1072.2 t1077).bind fun bt1080 => ((laws_eqIntS.f k bt1080.1 bt1068.1).bind fun t1084 => (if t1084 = true then (laws_FnExactFinishWord.j0 k l1 bt1068.1 bt1068.2 t1077 bt1080.1 bt1080.2 (bt1080.2 != bt1068.2) a0_0 l0_1 bt1072.1 bt1072.2) else (laws_FnExactFinishWord.j0 k l1 bt1068.1 bt1068.2 t1077 bt1080.1 bt1080.2 true a0_0 l0_1 bt1072.1 bt1072.2)))))))))))
theorem laws_FnExactFinishWord.mono_l : ∀ k, (∀ y0 y1 y2 y3 y4 y5 y6 y7 y8 y9 y10, LeO (laws_FnExactFinishWord.j0 k y0 y1 y2 y3 y4 y5 y6 y7 y8 y9 y10) (laws_FnExactFinishWord.j0 (k + 1) y0 y1 y2 y3 y4 y5 y6 y7 y8 y9 y10)) ∧ (∀ y0 y1 y2 y3 y4 y5 y6, LeO (laws_FnExactFinishWord.j1 k y0 y1 y2 y3 y4 y5 y6) (laws_FnExactFinishWord.j1 (k + 1) y0 y1 y2 y3 y4 y5 y6)) ∧ (∀ y0 y1 y2, LeO (laws_FnExactFinishWord.j2 k y0 y1 y2) (laws_FnExactFinishWord.j2 (k + 1) y0 y1 y2))
  | 0 => ⟨fun _ _ _ _ _ _ _ _ _ _ _ r h => by simp [laws_FnExactFinishWord.j0] at h, fun _ _ _ _ _ _ _ r h => by simp [laws_FnExactFinishWord.j1] at h, fun _ _ _ r h => by simp [laws_FnExactFinishWord.j2] at h⟩
  | k + 1 => by
    obtain ⟨ih0, ih1, ih2⟩ := laws_FnExactFinishWord.mono_l k
    refine ⟨?_, ?_, ?_⟩
    · intro y0 y1 y2 y3 y4 y5 y6 y7 y8 y9 y10
      unfold laws_FnExactFinishWord.j0
      repeat' first
      | (with_reducible exact ih0 _ _ _ _ _ _ _ _ _ _ _)
      | (with_reducible exact ih1 _ _ _ _ _ _ _)
      | (with_reducible exact ih2 _ _ _)
      | (with_reducible exact impl_FinishWord.mono _ _ _ _)
      | (with_reducible exact laws_eqIntS.mono _ _ _)
      | (with_reducible exact laws_eqSpace.mono _ _ _ _ _)
      | (with_reducible exact laws_heldIntS.mono _ _ _)
      | (with_reducible exact laws_markIntS.mono _ _ _)
      | (with_reducible exact laws_markSpace.mono _ _ _ _)
      | (with_reducible exact laws_toIntS.mono _ _)
      | (with_reducible exact laws_toSpace.mono _ _ _)
      | (with_reducible exact spec_FinishWord.mono _ _ _ _)
      | (with_reducible exact LeO.refl _)
      | (with_reducible exact LeO.none _)
      | (with_reducible refine LeO.ite ?_ ?_)
      | (with_reducible refine LeO.bind ?_ (fun _ => ?_))
      | exact ih0 _ _ _ _ _ _ _ _ _ _ _
      | exact ih1 _ _ _ _ _ _ _
      | exact ih2 _ _ _
      | exact impl_FinishWord.mono _ _ _ _
      | exact laws_eqIntS.mono _ _ _
      | exact laws_eqSpace.mono _ _ _ _ _
      | exact laws_heldIntS.mono _ _ _
      | exact laws_markIntS.mono _ _ _
      | exact laws_markSpace.mono _ _ _ _
      | exact laws_toIntS.mono _ _
      | exact laws_toSpace.mono _ _ _
      | exact spec_FinishWord.mono _ _ _ _
      | exact LeO.none _
      | refine LeO.ite ?_ ?_
      | refine LeO.bind ?_ (fun _ => ?_)
    · intro y0 y1 y2 y3 y4 y5 y6
      unfold laws_FnExactFinishWord.j1
      repeat' first
      | (with_reducible exact ih0 _ _ _ _ _ _ _ _ _ _ _)
      | (with_reducible exact ih1 _ _ _ _ _ _ _)
      | (with_reducible exact ih2 _ _ _)
      | (with_reducible exact impl_FinishWord.mono _ _ _ _)
      | (with_reducible exact laws_eqIntS.mono _ _ _)
      | (with_reducible exact laws_eqSpace.mono _ _ _ _ _)
      | (with_reducible exact laws_heldIntS.mono _ _ _)
      | (with_reducible exact laws_markIntS.mono _ _ _)
      | (with_reducible exact laws_markSpace.mono _ _ _ _)
      | (with_reducible exact laws_toIntS.mono _ _)
      | (with_reducible exact laws_toSpace.mono _ _ _)
      | (with_reducible exact spec_FinishWord.mono _ _ _ _)
      | (with_reducible exact LeO.refl _)
      | (with_reducible exact LeO.none _)
      | (with_reducible refine LeO.ite ?_ ?_)
      | (with_reducible refine LeO.bind ?_ (fun _ => ?_))
      | exact ih0 _ _ _ _ _ _ _ _ _ _ _
      | exact ih1 _ _ _ _ _ _ _
      | exact ih2 _ _ _
      | exact impl_FinishWord.mono _ _ _ _
      | exact laws_eqIntS.mono _ _ _
      | exact laws_eqSpace.mono _ _ _ _ _
      | exact laws_heldIntS.mono _ _ _
      | exact laws_markIntS.mono _ _ _
      | exact laws_markSpace.mono _ _ _ _
      | exact laws_toIntS.mono _ _
      | exact laws_toSpace.mono _ _ _
      | exact spec_FinishWord.mono _ _ _ _
      | exact LeO.none _
      | refine LeO.ite ?_ ?_
      | refine LeO.bind ?_ (fun _ => ?_)
    · intro y0 y1 y2
      unfold laws_FnExactFinishWord.j2
      repeat' first
      | (with_reducible exact ih0 _ _ _ _ _ _ _ _ _ _ _)
      | (with_reducible exact ih1 _ _ _ _ _ _ _)
      | (with_reducible exact ih2 _ _ _)
      | (with_reducible exact impl_FinishWord.mono _ _ _ _)
      | (with_reducible exact laws_eqIntS.mono _ _ _)
      | (with_reducible exact laws_eqSpace.mono _ _ _ _ _)
      | (with_reducible exact laws_heldIntS.mono _ _ _)
      | (with_reducible exact laws_markIntS.mono _ _ _)
      | (with_reducible exact laws_markSpace.mono _ _ _ _)
      | (with_reducible exact laws_toIntS.mono _ _)
      | (with_reducible exact laws_toSpace.mono _ _ _)
      | (with_reducible exact spec_FinishWord.mono _ _ _ _)
      | (with_reducible exact LeO.refl _)
      | (with_reducible exact LeO.none _)
      | (with_reducible refine LeO.ite ?_ ?_)
      | (with_reducible refine LeO.bind ?_ (fun _ => ?_))
      | exact ih0 _ _ _ _ _ _ _ _ _ _ _
      | exact ih1 _ _ _ _ _ _ _
      | exact ih2 _ _ _
      | exact impl_FinishWord.mono _ _ _ _
      | exact laws_eqIntS.mono _ _ _
      | exact laws_eqSpace.mono _ _ _ _ _
      | exact laws_heldIntS.mono _ _ _
      | exact laws_markIntS.mono _ _ _
      | exact laws_markSpace.mono _ _ _ _
      | exact laws_toIntS.mono _ _
      | exact laws_toSpace.mono _ _ _
      | exact spec_FinishWord.mono _ _ _ _
      | exact LeO.none _
      | refine LeO.ite ?_ ?_
      | refine LeO.bind ?_ (fun _ => ?_)
theorem laws_FnExactFinishWord.mono : ∀ a0 a1 a2 k, LeO (laws_FnExactFinishWord.f k a0 a1 a2) (laws_FnExactFinishWord.f (k + 1) a0 a1 a2) := by
  intro a0 a1 a2 k
  obtain ⟨ih0, ih1, ih2⟩ := laws_FnExactFinishWord.mono_l k
  unfold laws_FnExactFinishWord.f
  repeat' first
      | (with_reducible exact ih0 _ _ _ _ _ _ _ _ _ _ _)
      | (with_reducible exact ih1 _ _ _ _ _ _ _)
      | (with_reducible exact ih2 _ _ _)
      | (with_reducible exact impl_FinishWord.mono _ _ _ _)
      | (with_reducible exact laws_eqIntS.mono _ _ _)
      | (with_reducible exact laws_eqSpace.mono _ _ _ _ _)
      | (with_reducible exact laws_heldIntS.mono _ _ _)
      | (with_reducible exact laws_markIntS.mono _ _ _)
      | (with_reducible exact laws_markSpace.mono _ _ _ _)
      | (with_reducible exact laws_toIntS.mono _ _)
      | (with_reducible exact laws_toSpace.mono _ _ _)
      | (with_reducible exact spec_FinishWord.mono _ _ _ _)
      | (with_reducible exact LeO.refl _)
      | (with_reducible exact LeO.none _)
      | (with_reducible refine LeO.ite ?_ ?_)
      | (with_reducible refine LeO.bind ?_ (fun _ => ?_))
      | exact ih0 _ _ _ _ _ _ _ _ _ _ _
      | exact ih1 _ _ _ _ _ _ _
      | exact ih2 _ _ _
      | exact impl_FinishWord.mono _ _ _ _
      | exact laws_eqIntS.mono _ _ _
      | exact laws_eqSpace.mono _ _ _ _ _
      | exact laws_heldIntS.mono _ _ _
      | exact laws_markIntS.mono _ _ _
      | exact laws_markSpace.mono _ _ _ _
      | exact laws_toIntS.mono _ _
      | exact laws_toSpace.mono _ _ _
      | exact spec_FinishWord.mono _ _ _ _
      | exact LeO.none _
      | refine LeO.ite ?_ ?_
      | refine LeO.bind ?_ (fun _ => ?_)
set_option maxHeartbeats 8000000 in
set_option maxRecDepth 100000 in
theorem laws_FnExactFinishWord.calls (k : Nat) (a0_0 : Int) (A0_1 : Option Addr) (c0_1 : Nat) (l0_1 : List Int) (A1 : Option Addr) (c1 : Nat) (l1 : List Int) (r : Bool) (w : World) (hr0_1 : Kd.C (Kd.int .i64) w A0_1 l0_1.length l0_1) (hc0_1 : l0_1.length ≤ c0_1) (hr1 : Kd.C (Kd.int .i64) w A1 l1.length l1) (hc1 : l1.length ≤ c1) (h : laws_FnExactFinishWord.f k a0_0 l0_1 l1 = some r) :
    Calls Try.prog 12 #[.agg #[.int .i64 a0_0, .slice A0_1 l0_1.length c0_1], .slice A1 l1.length c1] w fun e w' => e = .returned (.bool r) ∧ Below w.heap.size w w' := by
  have hu24 := Try.underlying24
  have hu28 := Try.underlying28
  have HR0_1 := Aside0.mk hr0_1
  have HC0_1 := Aside0.mk hc0_1
  clear hr0_1 hc0_1
  have HR1 := Aside0.mk hr1
  have HC1 := Aside0.mk hc1
  clear hr1 hc1
  have HB := Aside0.mk (Below.refl w.heap.size w)
  have H : (if (l1.length : Int) > 1048576 then (some true) else ((laws_szSpace.f a0_0 l0_1 1048576).bind fun t1060 => (if t1060 < 0 then (some true) else ((laws_toSpace.f k a0_0 l0_1).bind fun bt1061 => ((laws_toIntS.f k l1).bind fun t1065 => ((spec_FinishWord.f k bt1061.1 bt1061.2 t1065).bind fun bt1068 => ((laws_toSpace.f k a0_0 l0_1).bind fun bt1072 => ((laws_toIntS.f k l1).bind fun t1077 => ((impl_FinishWord.f k bt1072.1 bt1072.2 t1077).bind fun bt1080 => ((laws_eqIntS.f k bt1080.1 bt1068.1).bind fun t1084 => (if t1084 = true then (laws_FnExactFinishWord.j0 k l1 bt1068.1 bt1068.2 t1077 bt1080.1 bt1080.2 (bt1080.2 != bt1068.2) a0_0 l0_1 bt1072.1 bt1072.2) else (laws_FnExactFinishWord.j0 k l1 bt1068.1 bt1068.2 t1077 bt1080.1 bt1080.2 true a0_0 l0_1 bt1072.1 bt1072.2)))))))))))) = some r := h
  clear h
  by_cases c3 : (l1.length : Int) > 1048576
  · rw [if_pos c3] at H
    have c3b0 : decide (1048576 < (l1.length : Int)) = true := decide_eq_true c3
    have c3b1 : decide (1048576 < l1.length) = true := decide_eq_true (by omega)
    clear c3
    obtain rfl := Option.some.inj H
    go_enter Try.func12, Try.ntmps12
    go_wp2_with (first | ((with_reducible refine gate_dst (N := 2) rfl ?_); refine box_event ?hg (N := 2) ?hd (cs := #[.int .i64 a0_0, .slice A0_1 l0_1.length c0_1]) (t := 24) ?hr ?_; (case hd => rfl); (case hg => rfl); (case hr => first | (go_simp; done) | (go_simp; rfl)); intro gb1059 hg w4 hbox hb; have n0_ := Aside0.mk (below_step (by repeat (first | (with_reducible first | exact HB.out | apply below_alloc | apply pw_below_drewN | apply below_drew1) | exact HB.out)) hb); have n1_ := Aside0.mk (hbox); have n2_ := Aside0.mk ((by rw [hg]; exact (below_size (by repeat (first | (with_reducible first | exact HB.out | apply below_alloc | apply pw_below_drewN | apply below_drew1) | exact HB.out))) : w.heap.size ≤ gb1059)); have n3_ := Aside0.mk ((by rw [hg]; exact (below_size (by repeat (first | (with_reducible first | exact HB.out | apply below_alloc | apply pw_below_drewN | apply below_drew1) | exact HB.out))) : w.heap.size ≤ gb1059)); clear HB; have HB := n0_; have BK1059 := n1_; have GW1059 := n2_; have GE1059 := n3_; clear n0_ n1_ n2_ n3_; clear hb hbox hg))
    go_ret
    exact ⟨by first | rfl | (simp [errW_none, errW_some] <;> rfl) | (simp [*, errW_none, errW_some] <;> rfl), by repeat (first | (with_reducible first | exact HB.out | apply below_alloc | apply pw_below_drewN | apply below_drew1 | refine below_set ?_ GE1059.out) | exact HB.out)⟩
  · rw [if_neg c3] at H
    have c3b0 : decide (1048576 < (l1.length : Int)) = false := decide_eq_false c3
    have c3b1 : decide (1048576 < l1.length) = false := decide_eq_false (by omega)
    clear c3
    replace H := Option.bind_eq_some_iff.mp H
    obtain ⟨t1060, A50, H⟩ := H
    replace H : (if t1060 < 0 then (some true) else ((laws_toSpace.f k a0_0 l0_1).bind fun bt1061 => ((laws_toIntS.f k l1).bind fun t1065 => ((spec_FinishWord.f k bt1061.1 bt1061.2 t1065).bind fun bt1068 => ((laws_toSpace.f k a0_0 l0_1).bind fun bt1072 => ((laws_toIntS.f k l1).bind fun t1077 => ((impl_FinishWord.f k bt1072.1 bt1072.2 t1077).bind fun bt1080 => ((laws_eqIntS.f k bt1080.1 bt1068.1).bind fun t1084 => (if t1084 = true then (laws_FnExactFinishWord.j0 k l1 bt1068.1 bt1068.2 t1077 bt1080.1 bt1080.2 (bt1080.2 != bt1068.2) a0_0 l0_1 bt1072.1 bt1072.2) else (laws_FnExactFinishWord.j0 k l1 bt1068.1 bt1068.2 t1077 bt1080.1 bt1080.2 true a0_0 l0_1 bt1072.1 bt1072.2)))))))))) = some r := H
    have A5 := Aside0.mk A50
    clear A50
    by_cases c6 : t1060 < 0
    · rw [if_pos c6] at H
      have c6b0 : decide (t1060 < 0) = true := decide_eq_true c6
      clear c6
      obtain rfl := Option.some.inj H
      go_enter Try.func12, Try.ntmps12
      go_wp2_with (first | ((with_reducible refine gate_dst (N := 2) rfl ?_); refine box_event ?hg (N := 2) ?hd (cs := #[.int .i64 a0_0, .slice A0_1 l0_1.length c0_1]) (t := 24) ?hr ?_; (case hd => rfl); (case hg => rfl); (case hr => first | (go_simp; done) | (go_simp; rfl)); intro gb1059 hg w7 hbox hb; have n0_ := Aside0.mk (below_step (by repeat (first | (with_reducible first | exact HB.out | apply below_alloc | apply pw_below_drewN | apply below_drew1) | exact HB.out)) hb); have n1_ := Aside0.mk (hbox); have n2_ := Aside0.mk ((by rw [hg]; exact (below_size (by repeat (first | (with_reducible first | exact HB.out | apply below_alloc | apply pw_below_drewN | apply below_drew1) | exact HB.out))) : w.heap.size ≤ gb1059)); have n3_ := Aside0.mk ((by rw [hg]; exact (below_size (by repeat (first | (with_reducible first | exact HB.out | apply below_alloc | apply pw_below_drewN | apply below_drew1) | exact HB.out))) : w.heap.size ≤ gb1059)); clear HB; have HB := n0_; have BK1059 := n1_; have GW1059 := n2_; have GE1059 := n3_; clear n0_ n1_ n2_ n3_; clear hb hbox hg; have hcz8_0 : w7.cell? ⟨gb1059, 0, none⟩ = some (.int .i64 a0_0) := (blk_cell BK1059.out 0).trans rfl; have hcz8_1 : w7.cell? ⟨gb1059, 1, none⟩ = some (.slice A0_1 l0_1.length c0_1) := (blk_cell BK1059.out 1).trans rfl; have hfz8_0 := blk_frozen BK1059.out 0; have hfz8_1 := blk_frozen BK1059.out 1) | ((with_reducible refine gate_callee (f := 15) rfl ?_); refine goesL_ (some 22) rfl rfl Try.func15 (by kernel_rfl) rfl #[.agg #[.int .i64 a0_0, .slice A0_1 l0_1.length c0_1], .int .i64 1048576] rfl (by (try simp only [List.map_toArray, List.map_cons, List.map_nil]); first | done | rfl | (simp only [List.length_drop, List.length_take]; rfl)) ?_; (with_reducible refine (laws_szSpace.calls a0_0 _ _ l0_1 1048576 t1060 _ ?side1 ?side2 A5.out).mono ?_); (case side1 => repeat (first | exact (Kd.C_below HR0_1.out HB.out) | (with_reducible refine Kd.C_alloc ?_ _) | (with_reducible refine Kd.C_drewN ?_ _) | (with_reducible refine Kd.C_drew ?_))); (case side2 => exact HC0_1.out); rintro e w9 ⟨rfl, hb⟩; refine ⟨_, rfl, ?_⟩; have n0_ := Aside0.mk (blk_below (g := gb1059) (o := .cells #[.int .i64 a0_0, .slice A0_1 l0_1.length c0_1] 24 (0, 0)) (by (with_reducible repeat (first | refine blk_drewN ?_ _ | refine blk_drew ?_ | refine blk_alloc ?_ _)); exact BK1059.out) hb); have n1_ := Aside0.mk (below_step (by repeat (first | (with_reducible first | exact HB.out | apply below_alloc | apply pw_below_drewN | apply below_drew1 | refine below_set ?_ GE1059.out) | exact HB.out)) hb); clear BK1059; clear HB; have BK1059 := n0_; have HB := n1_; clear n0_ n1_; (try clear hb); (try clear hb2); (try clear hk); (try clear hi)))
      go_ret
      exact ⟨by first | rfl | (simp [errW_none, errW_some] <;> rfl) | (simp [*, errW_none, errW_some] <;> rfl), by repeat (first | (with_reducible first | exact HB.out | apply below_alloc | apply pw_below_drewN | apply below_drew1 | refine below_set ?_ GE1059.out) | exact HB.out)⟩
    · rw [if_neg c6] at H
      have c6b0 : decide (t1060 < 0) = false := decide_eq_false c6
      clear c6
      replace H := Option.bind_eq_some_iff.mp H
      obtain ⟨⟨t1061, t1062⟩, A100, H⟩ := H
      replace H : ((laws_toIntS.f k l1).bind fun t1065 => ((spec_FinishWord.f k t1061 t1062 t1065).bind fun bt1068 => ((laws_toSpace.f k a0_0 l0_1).bind fun bt1072 => ((laws_toIntS.f k l1).bind fun t1077 => ((impl_FinishWord.f k bt1072.1 bt1072.2 t1077).bind fun bt1080 => ((laws_eqIntS.f k bt1080.1 bt1068.1).bind fun t1084 => (if t1084 = true then (laws_FnExactFinishWord.j0 k l1 bt1068.1 bt1068.2 t1077 bt1080.1 bt1080.2 (bt1080.2 != bt1068.2) a0_0 l0_1 bt1072.1 bt1072.2) else (laws_FnExactFinishWord.j0 k l1 bt1068.1 bt1068.2 t1077 bt1080.1 bt1080.2 true a0_0 l0_1 bt1072.1 bt1072.2)))))))) = some r := H
      have A10 := Aside0.mk A100
      clear A100
      replace H := Option.bind_eq_some_iff.mp H
      obtain ⟨t1065, A110, H⟩ := H
      replace H : ((spec_FinishWord.f k t1061 t1062 t1065).bind fun bt1068 => ((laws_toSpace.f k a0_0 l0_1).bind fun bt1072 => ((laws_toIntS.f k l1).bind fun t1077 => ((impl_FinishWord.f k bt1072.1 bt1072.2 t1077).bind fun bt1080 => ((laws_eqIntS.f k bt1080.1 bt1068.1).bind fun t1084 => (if t1084 = true then (laws_FnExactFinishWord.j0 k l1 bt1068.1 bt1068.2 t1077 bt1080.1 bt1080.2 (bt1080.2 != bt1068.2) a0_0 l0_1 bt1072.1 bt1072.2) else (laws_FnExactFinishWord.j0 k l1 bt1068.1 bt1068.2 t1077 bt1080.1 bt1080.2 true a0_0 l0_1 bt1072.1 bt1072.2))))))) = some r := H
      have A11 := Aside0.mk A110
      clear A110
      replace H := Option.bind_eq_some_iff.mp H
      obtain ⟨⟨t1068, t1071⟩, A120, H⟩ := H
      replace H : ((laws_toSpace.f k a0_0 l0_1).bind fun bt1072 => ((laws_toIntS.f k l1).bind fun t1077 => ((impl_FinishWord.f k bt1072.1 bt1072.2 t1077).bind fun bt1080 => ((laws_eqIntS.f k bt1080.1 t1068).bind fun t1084 => (if t1084 = true then (laws_FnExactFinishWord.j0 k l1 t1068 t1071 t1077 bt1080.1 bt1080.2 (bt1080.2 != t1071) a0_0 l0_1 bt1072.1 bt1072.2) else (laws_FnExactFinishWord.j0 k l1 t1068 t1071 t1077 bt1080.1 bt1080.2 true a0_0 l0_1 bt1072.1 bt1072.2)))))) = some r := H
      have A12 := Aside0.mk A120
      clear A120
      replace H := Option.bind_eq_some_iff.mp H
      obtain ⟨⟨t1072, t1073⟩, A130, H⟩ := H
      replace H : ((laws_toIntS.f k l1).bind fun t1077 => ((impl_FinishWord.f k t1072 t1073 t1077).bind fun bt1080 => ((laws_eqIntS.f k bt1080.1 t1068).bind fun t1084 => (if t1084 = true then (laws_FnExactFinishWord.j0 k l1 t1068 t1071 t1077 bt1080.1 bt1080.2 (bt1080.2 != t1071) a0_0 l0_1 t1072 t1073) else (laws_FnExactFinishWord.j0 k l1 t1068 t1071 t1077 bt1080.1 bt1080.2 true a0_0 l0_1 t1072 t1073))))) = some r := H
      have A13 := Aside0.mk A130
      clear A130
      replace H := Option.bind_eq_some_iff.mp H
      obtain ⟨t1077, A140, H⟩ := H
      replace H : ((impl_FinishWord.f k t1072 t1073 t1077).bind fun bt1080 => ((laws_eqIntS.f k bt1080.1 t1068).bind fun t1084 => (if t1084 = true then (laws_FnExactFinishWord.j0 k l1 t1068 t1071 t1077 bt1080.1 bt1080.2 (bt1080.2 != t1071) a0_0 l0_1 t1072 t1073) else (laws_FnExactFinishWord.j0 k l1 t1068 t1071 t1077 bt1080.1 bt1080.2 true a0_0 l0_1 t1072 t1073)))) = some r := H
      have A14 := Aside0.mk A140
      clear A140
      replace H := Option.bind_eq_some_iff.mp H
      obtain ⟨⟨t1080, t1083⟩, A150, H⟩ := H
      replace H : ((laws_eqIntS.f k t1080 t1068).bind fun t1084 => (if t1084 = true then (laws_FnExactFinishWord.j0 k l1 t1068 t1071 t1077 t1080 t1083 (t1083 != t1071) a0_0 l0_1 t1072 t1073) else (laws_FnExactFinishWord.j0 k l1 t1068 t1071 t1077 t1080 t1083 true a0_0 l0_1 t1072 t1073))) = some r := H
      have A15 := Aside0.mk A150
      clear A150
      have HC16 := Aside0.mk H
      clear H
      go_enter Try.func12, Try.ntmps12
      go_upto_region 11 with (first | ((with_reducible refine gate_dst (N := 2) rfl ?_); refine box_event ?hg (N := 2) ?hd (cs := #[.int .i64 a0_0, .slice A0_1 l0_1.length c0_1]) (t := 24) ?hr ?_; (case hd => rfl); (case hg => rfl); (case hr => first | (go_simp; done) | (go_simp; rfl)); intro gb1059 hg w17 hbox hb; have n0_ := Aside0.mk (below_step (by repeat (first | (with_reducible first | exact HB.out | apply below_alloc | apply pw_below_drewN | apply below_drew1) | exact HB.out)) hb); have n1_ := Aside0.mk (hbox); have n2_ := Aside0.mk ((by rw [hg]; exact (below_size (by repeat (first | (with_reducible first | exact HB.out | apply below_alloc | apply pw_below_drewN | apply below_drew1) | exact HB.out))) : w.heap.size ≤ gb1059)); have n3_ := Aside0.mk ((by rw [hg]; exact (below_size (by repeat (first | (with_reducible first | exact HB.out | apply below_alloc | apply pw_below_drewN | apply below_drew1) | exact HB.out))) : w.heap.size ≤ gb1059)); clear HB; have HB := n0_; have BK1059 := n1_; have GW1059 := n2_; have GE1059 := n3_; clear n0_ n1_ n2_ n3_; clear hb hbox hg; have hcz18_0 : w17.cell? ⟨gb1059, 0, none⟩ = some (.int .i64 a0_0) := (blk_cell BK1059.out 0).trans rfl; have hcz18_1 : w17.cell? ⟨gb1059, 1, none⟩ = some (.slice A0_1 l0_1.length c0_1) := (blk_cell BK1059.out 1).trans rfl; have hfz18_0 := blk_frozen BK1059.out 0; have hfz18_1 := blk_frozen BK1059.out 1) | ((with_reducible refine gate_callee (f := 15) rfl ?_); refine goesL_ (some 22) rfl rfl Try.func15 (by kernel_rfl) rfl #[.agg #[.int .i64 a0_0, .slice A0_1 l0_1.length c0_1], .int .i64 1048576] rfl (by (try simp only [List.map_toArray, List.map_cons, List.map_nil]); first | done | rfl | (simp only [List.length_drop, List.length_take]; rfl)) ?_; (with_reducible refine (laws_szSpace.calls a0_0 _ _ l0_1 1048576 t1060 _ ?side1 ?side2 A5.out).mono ?_); (case side1 => repeat (first | exact (Kd.C_below HR0_1.out HB.out) | (with_reducible refine Kd.C_alloc ?_ _) | (with_reducible refine Kd.C_drewN ?_ _) | (with_reducible refine Kd.C_drew ?_))); (case side2 => exact HC0_1.out); rintro e w19 ⟨rfl, hb⟩; refine ⟨_, rfl, ?_⟩; have n0_ := Aside0.mk (blk_below (g := gb1059) (o := .cells #[.int .i64 a0_0, .slice A0_1 l0_1.length c0_1] 24 (0, 0)) (by (with_reducible repeat (first | refine blk_drewN ?_ _ | refine blk_drew ?_ | refine blk_alloc ?_ _)); exact BK1059.out) hb); have n1_ := Aside0.mk (below_step (by repeat (first | (with_reducible first | exact HB.out | apply below_alloc | apply pw_below_drewN | apply below_drew1 | refine below_set ?_ GE1059.out) | exact HB.out)) hb); clear BK1059; clear HB; have BK1059 := n0_; have HB := n1_; clear n0_ n1_; (try clear hb); (try clear hb2); (try clear hk); (try clear hi); have hcz20_0 : w19.cell? ⟨gb1059, 0, none⟩ = some (.int .i64 a0_0) := (blk_cell BK1059.out 0).trans rfl; have hcz20_1 : w19.cell? ⟨gb1059, 1, none⟩ = some (.slice A0_1 l0_1.length c0_1) := (blk_cell BK1059.out 1).trans rfl; have hfz20_0 := blk_frozen BK1059.out 0; have hfz20_1 := blk_frozen BK1059.out 1) | ((with_reducible refine gate_callee (f := 17) rfl ?_); refine goesL_ (some 27) rfl rfl Try.func17 (by kernel_rfl) rfl #[.agg #[.int .i64 a0_0, .slice A0_1 l0_1.length c0_1]] rfl (by (try simp only [List.map_toArray, List.map_cons, List.map_nil]); first | done | rfl | (simp only [List.length_drop, List.length_take]; rfl)) ?_; (with_reducible refine (laws_toSpace.calls k a0_0 _ _ l0_1 t1061 t1062 _ ?side1 ?side2 A10.out).mono ?_); (case side1 => repeat (first | exact (Kd.C_below HR0_1.out HB.out) | (with_reducible refine Kd.C_alloc ?_ _) | (with_reducible refine Kd.C_drewN ?_ _) | (with_reducible refine Kd.C_drew ?_))); (case side2 => exact HC0_1.out); rintro e w21 ⟨v1063, rfl, ho0, hb⟩; refine ⟨_, rfl, ?_⟩; have n0_ := Aside0.mk (Kd.R_lower ho0 (below_size (by repeat (first | (with_reducible first | exact HB.out | apply below_alloc | apply pw_below_drewN | apply below_drew1 | refine below_set ?_ GE1059.out) | exact HB.out)))); have n1_ := Aside0.mk (blk_below (g := gb1059) (o := .cells #[.int .i64 a0_0, .slice A0_1 l0_1.length c0_1] 24 (0, 0)) (by (with_reducible repeat (first | refine blk_drewN ?_ _ | refine blk_drew ?_ | refine blk_alloc ?_ _)); exact BK1059.out) hb); have n2_ := Aside0.mk (below_step (by repeat (first | (with_reducible first | exact HB.out | apply below_alloc | apply pw_below_drewN | apply below_drew1 | refine below_set ?_ GE1059.out) | exact HB.out)) hb); clear BK1059; clear HB; have HO1064 := n0_; have BK1059 := n1_; have HB := n2_; clear n0_ n1_ n2_; (try clear hb); (try clear hb2); (try clear hk); (try clear hi); (try clear ho0)) | ((with_reducible refine gate_callee (f := 21) rfl ?_); refine goesL_ (some 29) rfl rfl Try.func21 (by kernel_rfl) rfl #[.slice A1 l1.length c1] rfl (by (try simp only [List.map_toArray, List.map_cons, List.map_nil]); first | done | rfl | (simp only [List.length_drop, List.length_take]; rfl)) ?_; (with_reducible refine (laws_toIntS.calls k _ _ l1 t1065 _ ?side1 ?side2 A11.out).mono ?_); (case side1 => repeat (first | exact (Kd.C_below HR1.out HB.out) | (with_reducible refine Kd.C_alloc ?_ _) | (with_reducible refine Kd.C_drewN ?_ _) | (with_reducible refine Kd.C_drew ?_))); (case side2 => exact HC1.out); rintro e w22 ⟨v1066, rfl, ho0, hb⟩; refine ⟨_, rfl, ?_⟩; have n0_ := Aside0.mk (Kd.R_elder' (by (with_reducible repeat (first | apply Kd.R_alloc | apply Kd.R_drewN | apply Kd.R_drew)); exact HO1064.out) (Kd.R_base ho0) hb); have n1_ := Aside0.mk (Kd.R_lower (Kd.R_new' ho0 (Kd.R_lt (by (with_reducible repeat (first | apply Kd.R_alloc | apply Kd.R_drewN | apply Kd.R_drew)); exact HO1064.out))) (below_size (by repeat (first | (with_reducible first | exact HB.out | apply below_alloc | apply pw_below_drewN | apply below_drew1 | refine below_set ?_ GE1059.out) | exact HB.out)))); have n2_ := Aside0.mk (blk_below (g := gb1059) (o := .cells #[.int .i64 a0_0, .slice A0_1 l0_1.length c0_1] 24 (0, 0)) (by (with_reducible repeat (first | refine blk_drewN ?_ _ | refine blk_drew ?_ | refine blk_alloc ?_ _)); exact BK1059.out) hb); have n3_ := Aside0.mk (below_step (by repeat (first | (with_reducible first | exact HB.out | apply below_alloc | apply pw_below_drewN | apply below_drew1 | refine below_set ?_ GE1059.out) | exact HB.out)) hb); clear HO1064; clear BK1059; clear HB; have HO1064 := n0_; have HO1067 := n1_; have BK1059 := n2_; have HB := n3_; clear n0_ n1_ n2_ n3_; (try clear hb); (try clear hb2); (try clear hk); (try clear hi); (try clear ho0); obtain ⟨Ao23, co23, eo23⟩ := Kd.R_slice HO1064.out; subst eo23; obtain ⟨Ao24, co24, eo24⟩ := Kd.R_slice HO1067.out; subst eo24) | ((with_reducible refine gate_callee (f := 51) rfl ?_); refine goesL_ (some 30) rfl rfl Try.func51 (by kernel_rfl) rfl #[.agg #[.int .i64 t1061, .slice Ao23 t1062.length co23], .slice Ao24 t1065.length co24] rfl (by (try simp only [List.map_toArray, List.map_cons, List.map_nil]); first | done | rfl | (simp only [List.length_drop, List.length_take]; rfl)) ?_; (with_reducible refine (spec_FinishWord.calls k t1061 _ _ t1062 _ _ t1065 t1068 t1071 _ ?side1 ?side2 ?side3 ?side4 A12.out).mono ?_); (case side1 => repeat (first | exact (Kd.R_reads' HO1064.out).2.2 | (with_reducible refine Kd.C_alloc ?_ _) | (with_reducible refine Kd.C_drewN ?_ _) | (with_reducible refine Kd.C_drew ?_))); (case side2 => exact (Kd.R_reads' HO1064.out).2.1); (case side3 => repeat (first | exact (Kd.R_reads' HO1067.out).2.2 | (with_reducible refine Kd.C_alloc ?_ _) | (with_reducible refine Kd.C_drewN ?_ _) | (with_reducible refine Kd.C_drew ?_))); (case side4 => exact (Kd.R_reads' HO1067.out).2.1); rintro e w25 ⟨v1069, rfl, ho0, hb⟩; refine ⟨_, rfl, ?_⟩; have n0_ := Aside0.mk (Kd.R_elder' (by (with_reducible repeat (first | apply Kd.R_alloc | apply Kd.R_drewN | apply Kd.R_drew)); exact HO1064.out) (Kd.R_base ho0) hb); have n1_ := Aside0.mk (Kd.R_elder' (by (with_reducible repeat (first | apply Kd.R_alloc | apply Kd.R_drewN | apply Kd.R_drew)); exact HO1067.out) (Kd.R_base ho0) hb); have n2_ := Aside0.mk (Kd.R_lower (Kd.R_new' (Kd.R_new' ho0 (Kd.R_lt (by (with_reducible repeat (first | apply Kd.R_alloc | apply Kd.R_drewN | apply Kd.R_drew)); exact HO1064.out))) (Kd.R_lt (by (with_reducible repeat (first | apply Kd.R_alloc | apply Kd.R_drewN | apply Kd.R_drew)); exact HO1067.out))) (below_size (by repeat (first | (with_reducible first | exact HB.out | apply below_alloc | apply pw_below_drewN | apply below_drew1 | refine below_set ?_ GE1059.out) | exact HB.out)))); have n3_ := Aside0.mk (blk_below (g := gb1059) (o := .cells #[.int .i64 a0_0, .slice A0_1 l0_1.length c0_1] 24 (0, 0)) (by (with_reducible repeat (first | refine blk_drewN ?_ _ | refine blk_drew ?_ | refine blk_alloc ?_ _)); exact BK1059.out) hb); have n4_ := Aside0.mk (below_step (by repeat (first | (with_reducible first | exact HB.out | apply below_alloc | apply pw_below_drewN | apply below_drew1 | refine below_set ?_ GE1059.out) | exact HB.out)) hb); clear HO1064; clear HO1067; clear BK1059; clear HB; have HO1064 := n0_; have HO1067 := n1_; have HO1070 := n2_; have BK1059 := n3_; have HB := n4_; clear n0_ n1_ n2_ n3_ n4_; (try clear hb); (try clear hb2); (try clear hk); (try clear hi); (try clear ho0); have hcz26_0 : w25.cell? ⟨gb1059, 0, none⟩ = some (.int .i64 a0_0) := (blk_cell BK1059.out 0).trans rfl; have hcz26_1 : w25.cell? ⟨gb1059, 1, none⟩ = some (.slice A0_1 l0_1.length c0_1) := (blk_cell BK1059.out 1).trans rfl; have hfz26_0 := blk_frozen BK1059.out 0; have hfz26_1 := blk_frozen BK1059.out 1) | ((with_reducible refine gate_callee (f := 17) rfl ?_); refine goesL_ (some 34) rfl rfl Try.func17 (by kernel_rfl) rfl #[.agg #[.int .i64 a0_0, .slice A0_1 l0_1.length c0_1]] rfl (by (try simp only [List.map_toArray, List.map_cons, List.map_nil]); first | done | rfl | (simp only [List.length_drop, List.length_take]; rfl)) ?_; (with_reducible refine (laws_toSpace.calls k a0_0 _ _ l0_1 t1072 t1073 _ ?side1 ?side2 A13.out).mono ?_); (case side1 => repeat (first | exact (Kd.C_below HR0_1.out HB.out) | (with_reducible refine Kd.C_alloc ?_ _) | (with_reducible refine Kd.C_drewN ?_ _) | (with_reducible refine Kd.C_drew ?_))); (case side2 => exact HC0_1.out); rintro e w27 ⟨v1074, rfl, ho0, hb⟩; refine ⟨_, rfl, ?_⟩; have n0_ := Aside0.mk (Kd.R_elder' (by (with_reducible repeat (first | apply Kd.R_alloc | apply Kd.R_drewN | apply Kd.R_drew)); exact HO1064.out) (Kd.R_base ho0) hb); have n1_ := Aside0.mk (Kd.R_elder' (by (with_reducible repeat (first | apply Kd.R_alloc | apply Kd.R_drewN | apply Kd.R_drew)); exact HO1067.out) (Kd.R_base ho0) hb); have n2_ := Aside0.mk (Kd.R_elder' (by (with_reducible repeat (first | apply Kd.R_alloc | apply Kd.R_drewN | apply Kd.R_drew)); exact HO1070.out) (Kd.R_base ho0) hb); have n3_ := Aside0.mk (Kd.R_lower (Kd.R_new' (Kd.R_new' (Kd.R_new' ho0 (Kd.R_lt (by (with_reducible repeat (first | apply Kd.R_alloc | apply Kd.R_drewN | apply Kd.R_drew)); exact HO1064.out))) (Kd.R_lt (by (with_reducible repeat (first | apply Kd.R_alloc | apply Kd.R_drewN | apply Kd.R_drew)); exact HO1067.out))) (Kd.R_lt (by (with_reducible repeat (first | apply Kd.R_alloc | apply Kd.R_drewN | apply Kd.R_drew)); exact HO1070.out))) (below_size (by repeat (first | (with_reducible first | exact HB.out | apply below_alloc | apply pw_below_drewN | apply below_drew1 | refine below_set ?_ GE1059.out) | exact HB.out)))); have n4_ := Aside0.mk (blk_below (g := gb1059) (o := .cells #[.int .i64 a0_0, .slice A0_1 l0_1.length c0_1] 24 (0, 0)) (by (with_reducible repeat (first | refine blk_drewN ?_ _ | refine blk_drew ?_ | refine blk_alloc ?_ _)); exact BK1059.out) hb); have n5_ := Aside0.mk (below_step (by repeat (first | (with_reducible first | exact HB.out | apply below_alloc | apply pw_below_drewN | apply below_drew1 | refine below_set ?_ GE1059.out) | exact HB.out)) hb); clear HO1064; clear HO1067; clear HO1070; clear BK1059; clear HB; have HO1064 := n0_; have HO1067 := n1_; have HO1070 := n2_; have HO1075 := n3_; have BK1059 := n4_; have HB := n5_; clear n0_ n1_ n2_ n3_ n4_ n5_; (try clear hb); (try clear hb2); (try clear hk); (try clear hi); (try clear ho0)) | ((with_reducible refine gate_dst (N := 8) rfl ?_); refine box_event ?hg (N := 8) ?hd (cs := #[.int .i64 0, .slice none 0 0]) (t := 28) ?hr ?_; (case hd => rfl); (case hg => rfl); (case hr => first | (go_simp; done) | (go_simp; rfl)); intro gb1076 hg w28 hbox hb; have n0_ := Aside0.mk (Kd.R_below (by (with_reducible repeat (first | apply Kd.R_alloc | apply Kd.R_drewN | apply Kd.R_drew)); exact HO1064.out) hb); have n1_ := Aside0.mk (Kd.R_below (by (with_reducible repeat (first | apply Kd.R_alloc | apply Kd.R_drewN | apply Kd.R_drew)); exact HO1067.out) hb); have n2_ := Aside0.mk (Kd.R_below (by (with_reducible repeat (first | apply Kd.R_alloc | apply Kd.R_drewN | apply Kd.R_drew)); exact HO1070.out) hb); have n3_ := Aside0.mk (Kd.R_below (by (with_reducible repeat (first | apply Kd.R_alloc | apply Kd.R_drewN | apply Kd.R_drew)); exact HO1075.out) hb); have n4_ := Aside0.mk (blk_below (g := gb1059) (o := .cells #[.int .i64 a0_0, .slice A0_1 l0_1.length c0_1] 24 (0, 0)) (by (with_reducible repeat (first | refine blk_drewN ?_ _ | refine blk_drew ?_ | refine blk_alloc ?_ _)); exact BK1059.out) hb); have n5_ := Aside0.mk (below_step (by repeat (first | (with_reducible first | exact HB.out | apply below_alloc | apply pw_below_drewN | apply below_drew1 | refine below_set ?_ GE1059.out) | exact HB.out)) hb); have n6_ := Aside0.mk (hbox); have n7_ := Aside0.mk ((by rw [hg]; exact (below_size (by repeat (first | (with_reducible first | exact HB.out | apply below_alloc | apply pw_below_drewN | apply below_drew1 | refine below_set ?_ GE1059.out) | exact HB.out))) : w.heap.size ≤ gb1076)); have n8_ := Aside0.mk ((by rw [hg]; exact (below_size (by repeat (first | (with_reducible first | exact HB.out | apply below_alloc | apply pw_below_drewN | apply below_drew1 | refine below_set ?_ GE1059.out) | exact HB.out))) : w.heap.size ≤ gb1076)); have n9_ := Aside0.mk ((by rw [hg]; exact Nat.ne_of_lt (blk_lt (g := gb1059) (o := .cells #[.int .i64 a0_0, .slice A0_1 l0_1.length c0_1] 24 (0, 0)) (by (with_reducible repeat (first | refine blk_drewN ?_ _ | refine blk_drew ?_ | refine blk_alloc ?_ _)); exact BK1059.out)) : gb1059 ≠ gb1076)); have n10_ := Aside0.mk ((by rw [hg]; exact Nat.ne_of_gt (blk_lt (g := gb1059) (o := .cells #[.int .i64 a0_0, .slice A0_1 l0_1.length c0_1] 24 (0, 0)) (by (with_reducible repeat (first | refine blk_drewN ?_ _ | refine blk_drew ?_ | refine blk_alloc ?_ _)); exact BK1059.out)) : gb1076 ≠ gb1059)); clear HO1064; clear HO1067; clear HO1070; clear HO1075; clear BK1059; clear HB; have HO1064 := n0_; have HO1067 := n1_; have HO1070 := n2_; have HO1075 := n3_; have BK1059 := n4_; have HB := n5_; have BK1076 := n6_; have GW1076 := n7_; have GE1076 := n8_; have NB1059_1076 := n9_; have NB1076_1059 := n10_; clear n0_ n1_ n2_ n3_ n4_ n5_ n6_ n7_ n8_ n9_ n10_; clear hb hbox hg; have hnb29 := NB1076_1059.out; have hnc29 := NB1059_1076.out; have hcz30_0 : w28.cell? ⟨gb1076, 0, none⟩ = some (.int .i64 0) := (blk_cell BK1076.out 0).trans rfl; have hcz30_1 : w28.cell? ⟨gb1076, 1, none⟩ = some (.slice none 0 0) := (blk_cell BK1076.out 1).trans rfl; have hfz30_0 := blk_frozen BK1076.out 0; have hfz30_1 := blk_frozen BK1076.out 1; obtain ⟨Ao31, co31, eo31⟩ := Kd.R_slice HO1075.out; subst eo31) | ((with_reducible refine gate_callee (f := 21) rfl ?_); refine goesL_ (some 36) rfl rfl Try.func21 (by kernel_rfl) rfl #[.slice A1 l1.length c1] rfl (by (try simp only [List.map_toArray, List.map_cons, List.map_nil]); first | done | rfl | (simp only [List.length_drop, List.length_take]; rfl)) ?_; (with_reducible refine (laws_toIntS.calls k _ _ l1 t1077 _ ?side1 ?side2 A14.out).mono ?_); (case side1 => exact Kd.C_below HR1.out (by repeat (first | (with_reducible first | exact HB.out | apply below_alloc | apply pw_below_drewN | apply below_drew1 | refine below_set ?_ GE1059.out | refine below_set ?_ GE1076.out) | exact HB.out))); (case side2 => exact HC1.out); rintro e w32 ⟨v1078, rfl, ho0, hb⟩; refine ⟨_, rfl, ?_⟩; have n0_ := Aside0.mk (Kd.R_elder' (by (with_reducible repeat (first | apply Kd.R_alloc | apply Kd.R_drewN | apply Kd.R_drew)); exact (Kd.R_mono (Kd.R_far (p := ⟨gb1076, 1, none⟩) (Kd.R_far (p := ⟨gb1076, 0, none⟩) (Kd.R_types HO1064.out BK1076.out (by decide)) (fun _ hk => hk.2) (.int .i64 t1072)) (fun _ hk => hk.2) (.slice Ao31 t1073.length co31)) (fun _ h_ => h_.1))) (Kd.R_base ho0) hb); have n1_ := Aside0.mk (Kd.R_elder' (by (with_reducible repeat (first | apply Kd.R_alloc | apply Kd.R_drewN | apply Kd.R_drew)); exact (Kd.R_mono (Kd.R_far (p := ⟨gb1076, 1, none⟩) (Kd.R_far (p := ⟨gb1076, 0, none⟩) (Kd.R_types HO1067.out BK1076.out (by decide)) (fun _ hk => hk.2) (.int .i64 t1072)) (fun _ hk => hk.2) (.slice Ao31 t1073.length co31)) (fun _ h_ => h_.1))) (Kd.R_base ho0) hb); have n2_ := Aside0.mk (Kd.R_elder' (by (with_reducible repeat (first | apply Kd.R_alloc | apply Kd.R_drewN | apply Kd.R_drew)); exact (Kd.R_mono (Kd.R_far (p := ⟨gb1076, 1, none⟩) (Kd.R_far (p := ⟨gb1076, 0, none⟩) (Kd.R_types HO1070.out BK1076.out (by decide)) (fun _ hk => hk.2) (.int .i64 t1072)) (fun _ hk => hk.2) (.slice Ao31 t1073.length co31)) (fun _ h_ => h_.1))) (Kd.R_base ho0) hb); have n3_ := Aside0.mk (Kd.R_elder' (by (with_reducible repeat (first | apply Kd.R_alloc | apply Kd.R_drewN | apply Kd.R_drew)); exact (Kd.R_mono (Kd.R_far (p := ⟨gb1076, 1, none⟩) (Kd.R_far (p := ⟨gb1076, 0, none⟩) (Kd.R_types HO1075.out BK1076.out (by decide)) (fun _ hk => hk.2) (.int .i64 t1072)) (fun _ hk => hk.2) (.slice Ao31 t1073.length co31)) (fun _ h_ => h_.1))) (Kd.R_base ho0) hb); have n4_ := Aside0.mk (Kd.R_lower (Kd.R_new' (Kd.R_new' (Kd.R_new' (Kd.R_new' ho0 (Kd.R_lt (by (with_reducible repeat (first | apply Kd.R_alloc | apply Kd.R_drewN | apply Kd.R_drew)); exact (Kd.R_mono (Kd.R_far (p := ⟨gb1076, 1, none⟩) (Kd.R_far (p := ⟨gb1076, 0, none⟩) (Kd.R_types HO1064.out BK1076.out (by decide)) (fun _ hk => hk.2) (.int .i64 t1072)) (fun _ hk => hk.2) (.slice Ao31 t1073.length co31)) (fun _ h_ => h_.1))))) (Kd.R_lt (by (with_reducible repeat (first | apply Kd.R_alloc | apply Kd.R_drewN | apply Kd.R_drew)); exact (Kd.R_mono (Kd.R_far (p := ⟨gb1076, 1, none⟩) (Kd.R_far (p := ⟨gb1076, 0, none⟩) (Kd.R_types HO1067.out BK1076.out (by decide)) (fun _ hk => hk.2) (.int .i64 t1072)) (fun _ hk => hk.2) (.slice Ao31 t1073.length co31)) (fun _ h_ => h_.1))))) (Kd.R_lt (by (with_reducible repeat (first | apply Kd.R_alloc | apply Kd.R_drewN | apply Kd.R_drew)); exact (Kd.R_mono (Kd.R_far (p := ⟨gb1076, 1, none⟩) (Kd.R_far (p := ⟨gb1076, 0, none⟩) (Kd.R_types HO1070.out BK1076.out (by decide)) (fun _ hk => hk.2) (.int .i64 t1072)) (fun _ hk => hk.2) (.slice Ao31 t1073.length co31)) (fun _ h_ => h_.1))))) (Kd.R_lt (by (with_reducible repeat (first | apply Kd.R_alloc | apply Kd.R_drewN | apply Kd.R_drew)); exact (Kd.R_mono (Kd.R_far (p := ⟨gb1076, 1, none⟩) (Kd.R_far (p := ⟨gb1076, 0, none⟩) (Kd.R_types HO1075.out BK1076.out (by decide)) (fun _ hk => hk.2) (.int .i64 t1072)) (fun _ hk => hk.2) (.slice Ao31 t1073.length co31)) (fun _ h_ => h_.1))))) (below_size (by repeat (first | (with_reducible first | exact HB.out | apply below_alloc | apply pw_below_drewN | apply below_drew1 | refine below_set ?_ GE1059.out | refine below_set ?_ GE1076.out) | exact HB.out)))); have n5_ := Aside0.mk (blk_below (g := gb1059) (o := .cells #[.int .i64 a0_0, .slice A0_1 l0_1.length c0_1] 24 (0, 0)) (by (with_reducible repeat (first | refine blk_drewN ?_ _ | refine blk_drew ?_ | refine blk_alloc ?_ _)); refine blk_far ?_ NB1059_1076.out _; (with_reducible repeat (first | refine blk_drewN ?_ _ | refine blk_drew ?_ | refine blk_alloc ?_ _)); refine blk_far ?_ NB1059_1076.out _; (with_reducible repeat (first | refine blk_drewN ?_ _ | refine blk_drew ?_ | refine blk_alloc ?_ _)); exact BK1059.out) hb); have n6_ := Aside0.mk (blk_below (g := gb1076) (o := .cells #[.int .i64 t1072, .slice Ao31 t1073.length co31] 28 (0, 0)) (by (with_reducible repeat (first | refine blk_drewN ?_ _ | refine blk_drew ?_ | refine blk_alloc ?_ _)); refine blk_put (cs := #[.int .i64 t1072, .slice none 0 0]) ?_ 1 _ rfl; (with_reducible repeat (first | refine blk_drewN ?_ _ | refine blk_drew ?_ | refine blk_alloc ?_ _)); refine blk_put (cs := #[.int .i64 0, .slice none 0 0]) ?_ 0 _ rfl; (with_reducible repeat (first | refine blk_drewN ?_ _ | refine blk_drew ?_ | refine blk_alloc ?_ _)); exact BK1076.out) hb); have n7_ := Aside0.mk (below_step (by repeat (first | (with_reducible first | exact HB.out | apply below_alloc | apply pw_below_drewN | apply below_drew1 | refine below_set ?_ GE1059.out | refine below_set ?_ GE1076.out) | exact HB.out)) hb); clear HO1064; clear HO1067; clear HO1070; clear HO1075; clear BK1059; clear BK1076; clear HB; have HO1064 := n0_; have HO1067 := n1_; have HO1070 := n2_; have HO1075 := n3_; have HO1079 := n4_; have BK1059 := n5_; have BK1076 := n6_; have HB := n7_; clear n0_ n1_ n2_ n3_ n4_ n5_ n6_ n7_; (try clear hb); (try clear hb2); (try clear hk); (try clear hi); (try clear ho0); have hcz33_0 : w32.cell? ⟨gb1076, 0, none⟩ = some (.int .i64 t1072) := (blk_cell BK1076.out 0).trans rfl; have hcz33_1 : w32.cell? ⟨gb1076, 1, none⟩ = some (.slice Ao31 t1073.length co31) := (blk_cell BK1076.out 1).trans rfl; have hfz33_0 := blk_frozen BK1076.out 0; have hfz33_1 := blk_frozen BK1076.out 1; obtain ⟨Ao34, co34, eo34⟩ := Kd.R_slice HO1079.out; subst eo34) | ((with_reducible refine gate_callee (f := 52) rfl ?_); refine goesL_ (some 40) rfl rfl Try.func52 (by kernel_rfl) rfl #[.agg #[.int .i64 t1072, .slice Ao31 t1073.length co31], .slice Ao34 t1077.length co34] rfl (by (try simp only [List.map_toArray, List.map_cons, List.map_nil]); first | done | rfl | (simp only [List.length_drop, List.length_take]; rfl)) ?_; (with_reducible refine (impl_FinishWord.calls k t1072 _ _ t1073 _ _ t1077 t1080 t1083 _ ?side1 ?side2 ?side3 ?side4 A15.out).mono ?_); (case side1 => repeat (first | exact (Kd.R_reads' HO1075.out).2.2 | (with_reducible refine Kd.C_alloc ?_ _) | (with_reducible refine Kd.C_drewN ?_ _) | (with_reducible refine Kd.C_drew ?_))); (case side2 => exact (Kd.R_reads' HO1075.out).2.1); (case side3 => repeat (first | exact (Kd.R_reads' HO1079.out).2.2 | (with_reducible refine Kd.C_alloc ?_ _) | (with_reducible refine Kd.C_drewN ?_ _) | (with_reducible refine Kd.C_drew ?_))); (case side4 => exact (Kd.R_reads' HO1079.out).2.1); rintro e w35 ⟨v1081, rfl, ho0, hb⟩; refine ⟨_, rfl, ?_⟩; have n0_ := Aside0.mk (Kd.R_elder' (by (with_reducible repeat (first | apply Kd.R_alloc | apply Kd.R_drewN | apply Kd.R_drew)); exact HO1064.out) (Kd.R_base ho0) hb); have n1_ := Aside0.mk (Kd.R_elder' (by (with_reducible repeat (first | apply Kd.R_alloc | apply Kd.R_drewN | apply Kd.R_drew)); exact HO1067.out) (Kd.R_base ho0) hb); have n2_ := Aside0.mk (Kd.R_elder' (by (with_reducible repeat (first | apply Kd.R_alloc | apply Kd.R_drewN | apply Kd.R_drew)); exact HO1070.out) (Kd.R_base ho0) hb); have n3_ := Aside0.mk (Kd.R_elder' (by (with_reducible repeat (first | apply Kd.R_alloc | apply Kd.R_drewN | apply Kd.R_drew)); exact HO1075.out) (Kd.R_base ho0) hb); have n4_ := Aside0.mk (Kd.R_elder' (by (with_reducible repeat (first | apply Kd.R_alloc | apply Kd.R_drewN | apply Kd.R_drew)); exact HO1079.out) (Kd.R_base ho0) hb); have n5_ := Aside0.mk (Kd.R_lower (Kd.R_new' (Kd.R_new' (Kd.R_new' (Kd.R_new' (Kd.R_new' ho0 (Kd.R_lt (by (with_reducible repeat (first | apply Kd.R_alloc | apply Kd.R_drewN | apply Kd.R_drew)); exact HO1064.out))) (Kd.R_lt (by (with_reducible repeat (first | apply Kd.R_alloc | apply Kd.R_drewN | apply Kd.R_drew)); exact HO1067.out))) (Kd.R_lt (by (with_reducible repeat (first | apply Kd.R_alloc | apply Kd.R_drewN | apply Kd.R_drew)); exact HO1070.out))) (Kd.R_lt (by (with_reducible repeat (first | apply Kd.R_alloc | apply Kd.R_drewN | apply Kd.R_drew)); exact HO1075.out))) (Kd.R_lt (by (with_reducible repeat (first | apply Kd.R_alloc | apply Kd.R_drewN | apply Kd.R_drew)); exact HO1079.out))) (below_size (by repeat (first | (with_reducible first | exact HB.out | apply below_alloc | apply pw_below_drewN | apply below_drew1 | refine below_set ?_ GE1059.out | refine below_set ?_ GE1076.out) | exact HB.out)))); have n6_ := Aside0.mk (blk_below (g := gb1059) (o := .cells #[.int .i64 a0_0, .slice A0_1 l0_1.length c0_1] 24 (0, 0)) (by (with_reducible repeat (first | refine blk_drewN ?_ _ | refine blk_drew ?_ | refine blk_alloc ?_ _)); exact BK1059.out) hb); have n7_ := Aside0.mk (blk_below (g := gb1076) (o := .cells #[.int .i64 t1072, .slice Ao31 t1073.length co31] 28 (0, 0)) (by (with_reducible repeat (first | refine blk_drewN ?_ _ | refine blk_drew ?_ | refine blk_alloc ?_ _)); exact BK1076.out) hb); have n8_ := Aside0.mk (below_step (by repeat (first | (with_reducible first | exact HB.out | apply below_alloc | apply pw_below_drewN | apply below_drew1 | refine below_set ?_ GE1059.out | refine below_set ?_ GE1076.out) | exact HB.out)) hb); clear HO1064; clear HO1067; clear HO1070; clear HO1075; clear HO1079; clear BK1059; clear BK1076; clear HB; have HO1064 := n0_; have HO1067 := n1_; have HO1070 := n2_; have HO1075 := n3_; have HO1079 := n4_; have HO1082 := n5_; have BK1059 := n6_; have BK1076 := n7_; have HB := n8_; clear n0_ n1_ n2_ n3_ n4_ n5_ n6_ n7_ n8_; (try clear hb); (try clear hb2); (try clear hk); (try clear hi); (try clear ho0)))
      (try simp only [Act.put, List.setIfInBounds_toArray, List.set_cons_zero, List.set_cons_succ])
      go_cut [51] (fun v51 wc => ∃ (kq : Nat) (x51_15 : Bool), v51 = .bool x51_15 ∧ Aside0 (laws_FnExactFinishWord.j0 kq l1 t1068 t1071 t1077 t1080 t1083 x51_15 a0_0 l0_1 t1072 t1073 = some r) ∧ Aside0 (kq ≤ k) ∧ Aside0 (Kd.R (Kd.int .i64) 3 wc w.heap.size (fun k_ => some k_ ≠ ((.slice Ao34 t1077.length co34) : Value).ownBlock ∧ some k_ ≠ (v1081 : Value).ownBlock ∧ some k_ ≠ ((.slice Ao31 t1073.length co31) : Value).ownBlock) v1069 t1068) ∧ Aside0 (Kd.R (Kd.int .i64) 3 wc w.heap.size (fun k_ => some k_ ≠ (v1069 : Value).ownBlock ∧ some k_ ≠ (v1081 : Value).ownBlock ∧ some k_ ≠ ((.slice Ao31 t1073.length co31) : Value).ownBlock) (.slice Ao34 t1077.length co34) t1077) ∧ Aside0 (Kd.R (Kd.int .i64) 3 wc w.heap.size (fun k_ => some k_ ≠ (v1069 : Value).ownBlock ∧ some k_ ≠ ((.slice Ao34 t1077.length co34) : Value).ownBlock ∧ some k_ ≠ ((.slice Ao31 t1073.length co31) : Value).ownBlock) v1081 t1080) ∧ Aside0 (Kd.R (Kd.int .i64) 3 wc w.heap.size (fun k_ => some k_ ≠ (v1069 : Value).ownBlock ∧ some k_ ≠ ((.slice Ao34 t1077.length co34) : Value).ownBlock ∧ some k_ ≠ (v1081 : Value).ownBlock) (.slice Ao31 t1073.length co31) t1073) ∧ Aside0 (wc.heap[gb1059]? = some (.cells #[.int .i64 a0_0, (.slice A0_1 l0_1.length c0_1)] 24 (0, 0))) ∧ Aside0 (wc.heap[gb1076]? = some (.cells #[.int .i64 t1072, (.slice Ao31 t1073.length co31)] 28 (0, 0))) ∧ Aside0 (Below w.heap.size w wc))
      case first =>
        have H := HC16.out
        clear HC16
        replace H := Option.bind_eq_some_iff.mp H
        obtain ⟨t1084, A360, H⟩ := H
        replace H : (if t1084 = true then (laws_FnExactFinishWord.j0 k l1 t1068 t1071 t1077 t1080 t1083 (t1083 != t1071) a0_0 l0_1 t1072 t1073) else (laws_FnExactFinishWord.j0 k l1 t1068 t1071 t1077 t1080 t1083 true a0_0 l0_1 t1072 t1073)) = some r := H
        have A36 := Aside0.mk A360
        clear A360
        by_cases c37 : t1084 = true
        · subst c37
          have H1 : (laws_FnExactFinishWord.j0 k l1 t1068 t1071 t1077 t1080 t1083 (t1083 != t1071) a0_0 l0_1 t1072 t1073) = some r := by rw [if_pos rfl] at H; exact H
          clear H
          have H := H1
          clear H1
          have H' := Aside0.mk H
          clear H
          obtain ⟨Ao38, co38, eo38⟩ := Kd.R_slice HO1082.out
          subst eo38
          obtain ⟨Ao39, co39, eo39⟩ := Kd.R_slice HO1070.out
          subst eo39
          go_wp2_with (first | ((with_reducible refine gate_callee (f := 23) rfl ?_); refine goesL_ (some 45) rfl rfl Try.func23 (by kernel_rfl) rfl #[.slice Ao38 t1080.length co38, .slice Ao39 t1068.length co39] rfl (by (try simp only [List.map_toArray, List.map_cons, List.map_nil]); first | done | rfl | (simp only [List.length_drop, List.length_take]; rfl)) ?_; (with_reducible refine (laws_eqIntS.calls k _ _ t1080 _ _ t1068 true _ ?side1 ?side2 ?side3 ?side4 A36.out).mono ?_); (case side1 => repeat (first | exact (Kd.R_reads' HO1082.out).2.2 | (with_reducible refine Kd.C_alloc ?_ _) | (with_reducible refine Kd.C_drewN ?_ _) | (with_reducible refine Kd.C_drew ?_))); (case side2 => exact (Kd.R_reads' HO1082.out).2.1); (case side3 => repeat (first | exact (Kd.R_reads' HO1070.out).2.2 | (with_reducible refine Kd.C_alloc ?_ _) | (with_reducible refine Kd.C_drewN ?_ _) | (with_reducible refine Kd.C_drew ?_))); (case side4 => exact (Kd.R_reads' HO1070.out).2.1); rintro e w' ⟨rfl, ⟨nd, rfl⟩⟩; refine ⟨_, rfl, ?_⟩))
          go_meet
          case rel => exact ⟨_, ((t1083 != t1071)), (by first | rfl | (simp; done) | (simp [*]; done)), H', ⟨by first | omega | exact Nat.le_refl _⟩, ⟨by (with_reducible repeat (first | apply Kd.R_alloc | apply Kd.R_drewN | apply Kd.R_drew)); exact Kd.R_mono HO1070.out (fun _ hk => ⟨hk.1.2, ⟨hk.2, hk.1.1.2⟩⟩)⟩, ⟨by (with_reducible repeat (first | apply Kd.R_alloc | apply Kd.R_drewN | apply Kd.R_drew)); exact Kd.R_mono HO1079.out (fun _ hk => ⟨hk.1.1.2, ⟨hk.2, hk.1.2⟩⟩)⟩, ⟨by (with_reducible repeat (first | apply Kd.R_alloc | apply Kd.R_drewN | apply Kd.R_drew)); exact Kd.R_mono HO1082.out (fun _ hk => ⟨hk.1.1.2, ⟨hk.2, hk.1.2⟩⟩)⟩, ⟨by (with_reducible repeat (first | apply Kd.R_alloc | apply Kd.R_drewN | apply Kd.R_drew)); exact Kd.R_mono HO1075.out (fun _ hk => ⟨hk.1.1.2, ⟨hk.1.2, hk.2⟩⟩)⟩, ⟨by (with_reducible repeat (first | refine blk_drewN ?_ _ | refine blk_drew ?_ | refine blk_alloc ?_ _)); exact BK1059.out⟩, ⟨by (with_reducible repeat (first | refine blk_drewN ?_ _ | refine blk_drew ?_ | refine blk_alloc ?_ _)); exact BK1076.out⟩, ⟨by repeat (first | (with_reducible first | exact HB.out | apply below_alloc | apply pw_below_drewN | apply below_drew1 | refine below_set ?_ GE1059.out | refine below_set ?_ GE1076.out) | exact HB.out)⟩⟩
        · replace c37 := Bool.eq_false_iff.mpr c37
          subst c37
          have H1 : (laws_FnExactFinishWord.j0 k l1 t1068 t1071 t1077 t1080 t1083 true a0_0 l0_1 t1072 t1073) = some r := by rw [if_neg (show ¬ (false = true) by decide)] at H; exact H
          clear H
          have H := H1
          clear H1
          have H' := Aside0.mk H
          clear H
          obtain ⟨Ao40, co40, eo40⟩ := Kd.R_slice HO1082.out
          subst eo40
          obtain ⟨Ao41, co41, eo41⟩ := Kd.R_slice HO1070.out
          subst eo41
          go_wp2_with (first | ((with_reducible refine gate_callee (f := 23) rfl ?_); refine goesL_ (some 45) rfl rfl Try.func23 (by kernel_rfl) rfl #[.slice Ao40 t1080.length co40, .slice Ao41 t1068.length co41] rfl (by (try simp only [List.map_toArray, List.map_cons, List.map_nil]); first | done | rfl | (simp only [List.length_drop, List.length_take]; rfl)) ?_; (with_reducible refine (laws_eqIntS.calls k _ _ t1080 _ _ t1068 false _ ?side1 ?side2 ?side3 ?side4 A36.out).mono ?_); (case side1 => repeat (first | exact (Kd.R_reads' HO1082.out).2.2 | (with_reducible refine Kd.C_alloc ?_ _) | (with_reducible refine Kd.C_drewN ?_ _) | (with_reducible refine Kd.C_drew ?_))); (case side2 => exact (Kd.R_reads' HO1082.out).2.1); (case side3 => repeat (first | exact (Kd.R_reads' HO1070.out).2.2 | (with_reducible refine Kd.C_alloc ?_ _) | (with_reducible refine Kd.C_drewN ?_ _) | (with_reducible refine Kd.C_drew ?_))); (case side4 => exact (Kd.R_reads' HO1070.out).2.1); rintro e w' ⟨rfl, ⟨nd, rfl⟩⟩; refine ⟨_, rfl, ?_⟩))
          go_meet
          case rel => exact ⟨_, (true), (by first | rfl | (simp; done) | (simp [*]; done)), H', ⟨by first | omega | exact Nat.le_refl _⟩, ⟨by (with_reducible repeat (first | apply Kd.R_alloc | apply Kd.R_drewN | apply Kd.R_drew)); exact Kd.R_mono HO1070.out (fun _ hk => ⟨hk.1.2, ⟨hk.2, hk.1.1.2⟩⟩)⟩, ⟨by (with_reducible repeat (first | apply Kd.R_alloc | apply Kd.R_drewN | apply Kd.R_drew)); exact Kd.R_mono HO1079.out (fun _ hk => ⟨hk.1.1.2, ⟨hk.2, hk.1.2⟩⟩)⟩, ⟨by (with_reducible repeat (first | apply Kd.R_alloc | apply Kd.R_drewN | apply Kd.R_drew)); exact Kd.R_mono HO1082.out (fun _ hk => ⟨hk.1.1.2, ⟨hk.2, hk.1.2⟩⟩)⟩, ⟨by (with_reducible repeat (first | apply Kd.R_alloc | apply Kd.R_drewN | apply Kd.R_drew)); exact Kd.R_mono HO1075.out (fun _ hk => ⟨hk.1.1.2, ⟨hk.1.2, hk.2⟩⟩)⟩, ⟨by (with_reducible repeat (first | refine blk_drewN ?_ _ | refine blk_drew ?_ | refine blk_alloc ?_ _)); exact BK1059.out⟩, ⟨by (with_reducible repeat (first | refine blk_drewN ?_ _ | refine blk_drew ?_ | refine blk_alloc ?_ _)); exact BK1076.out⟩, ⟨by repeat (first | (with_reducible first | exact HB.out | apply below_alloc | apply pw_below_drewN | apply below_drew1 | refine below_set ?_ GE1059.out | refine below_set ?_ GE1076.out) | exact HB.out)⟩⟩
      case rest =>
        clear HC16
        try clear c1
        try clear c2
        try clear p2
        try clear c3
        try clear c3b0
        try clear c3b1
        try clear c5
        try clear c6
        try clear c6b0
        try clear c12
        try clear c15
        try clear c17
        try clear c21
        try clear c23
        try clear c29
        try clear c37
        try clear hcz18_0
        try clear hcz18_1
        try clear hcz20_0
        try clear hcz20_1
        try clear hcz26_0
        try clear hcz26_1
        try clear hcz30_0
        try clear hcz30_1
        try clear hcz33_0
        try clear hcz33_1
        try clear hcz8_0
        try clear hcz8_1
        try clear hfz18_0
        try clear hfz18_1
        try clear hfz20_0
        try clear hfz20_1
        try clear hfz26_0
        try clear hfz26_1
        try clear hfz30_0
        try clear hfz30_1
        try clear hfz33_0
        try clear hfz33_1
        try clear hfz8_0
        try clear hfz8_1
        obtain ⟨kq, x51_15, rfl, HA, HJ15, HO_6, HO_9, HO_10, HO_1077001, BK1059, BK1076, HB⟩ := hcut
        cases kq with
        | zero => exact absurd HA.out (by simp [laws_FnExactFinishWord.j0])
        | succ kj15 =>
          have H := HA.out
          clear HA
          simp only [laws_FnExactFinishWord.j0] at H
          by_cases c42 : x51_15 = true
          · subst c42
            have H1 : (some false) = some r := by rw [if_pos rfl] at H; exact H
            clear H
            have H := H1
            clear H1
            obtain rfl := Option.some.inj H
            go_wp2
            go_ret
            exact ⟨by first | rfl | (simp [errW_none, errW_some] <;> rfl) | (simp [*, errW_none, errW_some] <;> rfl), by repeat (first | (with_reducible first | exact HB.out | apply below_alloc | apply pw_below_drewN | apply below_drew1 | refine below_set ?_ GE1059.out | refine below_set ?_ GE1076.out) | exact HB.out)⟩
          · replace c42 := Bool.eq_false_iff.mpr c42
            subst c42
            have H1 : ((laws_toSpace.f kj15 a0_0 l0_1).bind fun bt1085 => ((laws_eqSpace.f kj15 t1072 t1073 bt1085.1 bt1085.2).bind fun t1089 => (if t1089 = true then ((laws_toIntS.f kj15 l1).bind fun t1090 => ((laws_eqIntS.f kj15 t1077 t1090).bind fun t1093 => (if t1093 = true then ((laws_markSpace.f kj15 t1072 t1073 1).bind fun bt1094 => ((laws_markIntS.f kj15 t1077 bt1094.1).bind fun bt1096 => (if bt1096.1 < 0 then (laws_FnExactFinishWord.j1 kj15 l1 t1068 t1071 t1080 true a0_0 l0_1) else ((laws_eqIntS.f kj15 t1080 t1068).bind fun t1098 => (if t1098 = true then (laws_FnExactFinishWord.j1 kj15 l1 t1068 t1071 t1080 (t1083 != t1071) a0_0 l0_1) else (laws_FnExactFinishWord.j1 kj15 l1 t1068 t1071 t1080 true a0_0 l0_1)))))) else (some false)))) else (some false)))) = some r := by rw [if_neg (show ¬ (false = true) by decide)] at H; exact H
            clear H
            have H := H1
            clear H1
            replace H := Option.bind_eq_some_iff.mp H
            obtain ⟨⟨t1085, t1086⟩, A430, H⟩ := H
            replace H : ((laws_eqSpace.f kj15 t1072 t1073 t1085 t1086).bind fun t1089 => (if t1089 = true then ((laws_toIntS.f kj15 l1).bind fun t1090 => ((laws_eqIntS.f kj15 t1077 t1090).bind fun t1093 => (if t1093 = true then ((laws_markSpace.f kj15 t1072 t1073 1).bind fun bt1094 => ((laws_markIntS.f kj15 t1077 bt1094.1).bind fun bt1096 => (if bt1096.1 < 0 then (laws_FnExactFinishWord.j1 kj15 l1 t1068 t1071 t1080 true a0_0 l0_1) else ((laws_eqIntS.f kj15 t1080 t1068).bind fun t1098 => (if t1098 = true then (laws_FnExactFinishWord.j1 kj15 l1 t1068 t1071 t1080 (t1083 != t1071) a0_0 l0_1) else (laws_FnExactFinishWord.j1 kj15 l1 t1068 t1071 t1080 true a0_0 l0_1)))))) else (some false)))) else (some false))) = some r := H
            have A43 := Aside0.mk A430
            clear A430
            replace H := Option.bind_eq_some_iff.mp H
            obtain ⟨t1089, A440, H⟩ := H
            replace H : (if t1089 = true then ((laws_toIntS.f kj15 l1).bind fun t1090 => ((laws_eqIntS.f kj15 t1077 t1090).bind fun t1093 => (if t1093 = true then ((laws_markSpace.f kj15 t1072 t1073 1).bind fun bt1094 => ((laws_markIntS.f kj15 t1077 bt1094.1).bind fun bt1096 => (if bt1096.1 < 0 then (laws_FnExactFinishWord.j1 kj15 l1 t1068 t1071 t1080 true a0_0 l0_1) else ((laws_eqIntS.f kj15 t1080 t1068).bind fun t1098 => (if t1098 = true then (laws_FnExactFinishWord.j1 kj15 l1 t1068 t1071 t1080 (t1083 != t1071) a0_0 l0_1) else (laws_FnExactFinishWord.j1 kj15 l1 t1068 t1071 t1080 true a0_0 l0_1)))))) else (some false)))) else (some false)) = some r := H
            have A44 := Aside0.mk A440
            clear A440
            by_cases c45 : t1089 = true
            · subst c45
              have H1 : ((laws_toIntS.f kj15 l1).bind fun t1090 => ((laws_eqIntS.f kj15 t1077 t1090).bind fun t1093 => (if t1093 = true then ((laws_markSpace.f kj15 t1072 t1073 1).bind fun bt1094 => ((laws_markIntS.f kj15 t1077 bt1094.1).bind fun bt1096 => (if bt1096.1 < 0 then (laws_FnExactFinishWord.j1 kj15 l1 t1068 t1071 t1080 true a0_0 l0_1) else ((laws_eqIntS.f kj15 t1080 t1068).bind fun t1098 => (if t1098 = true then (laws_FnExactFinishWord.j1 kj15 l1 t1068 t1071 t1080 (t1083 != t1071) a0_0 l0_1) else (laws_FnExactFinishWord.j1 kj15 l1 t1068 t1071 t1080 true a0_0 l0_1)))))) else (some false)))) = some r := by rw [if_pos rfl] at H; exact H
              clear H
              have H := H1
              clear H1
              replace H := Option.bind_eq_some_iff.mp H
              obtain ⟨t1090, A460, H⟩ := H
              replace H : ((laws_eqIntS.f kj15 t1077 t1090).bind fun t1093 => (if t1093 = true then ((laws_markSpace.f kj15 t1072 t1073 1).bind fun bt1094 => ((laws_markIntS.f kj15 t1077 bt1094.1).bind fun bt1096 => (if bt1096.1 < 0 then (laws_FnExactFinishWord.j1 kj15 l1 t1068 t1071 t1080 true a0_0 l0_1) else ((laws_eqIntS.f kj15 t1080 t1068).bind fun t1098 => (if t1098 = true then (laws_FnExactFinishWord.j1 kj15 l1 t1068 t1071 t1080 (t1083 != t1071) a0_0 l0_1) else (laws_FnExactFinishWord.j1 kj15 l1 t1068 t1071 t1080 true a0_0 l0_1)))))) else (some false))) = some r := H
              have A46 := Aside0.mk A460
              clear A460
              replace H := Option.bind_eq_some_iff.mp H
              obtain ⟨t1093, A470, H⟩ := H
              replace H : (if t1093 = true then ((laws_markSpace.f kj15 t1072 t1073 1).bind fun bt1094 => ((laws_markIntS.f kj15 t1077 bt1094.1).bind fun bt1096 => (if bt1096.1 < 0 then (laws_FnExactFinishWord.j1 kj15 l1 t1068 t1071 t1080 true a0_0 l0_1) else ((laws_eqIntS.f kj15 t1080 t1068).bind fun t1098 => (if t1098 = true then (laws_FnExactFinishWord.j1 kj15 l1 t1068 t1071 t1080 (t1083 != t1071) a0_0 l0_1) else (laws_FnExactFinishWord.j1 kj15 l1 t1068 t1071 t1080 true a0_0 l0_1)))))) else (some false)) = some r := H
              have A47 := Aside0.mk A470
              clear A470
              by_cases c48 : t1093 = true
              · subst c48
                have H1 : ((laws_markSpace.f kj15 t1072 t1073 1).bind fun bt1094 => ((laws_markIntS.f kj15 t1077 bt1094.1).bind fun bt1096 => (if bt1096.1 < 0 then (laws_FnExactFinishWord.j1 kj15 l1 t1068 t1071 t1080 true a0_0 l0_1) else ((laws_eqIntS.f kj15 t1080 t1068).bind fun t1098 => (if t1098 = true then (laws_FnExactFinishWord.j1 kj15 l1 t1068 t1071 t1080 (t1083 != t1071) a0_0 l0_1) else (laws_FnExactFinishWord.j1 kj15 l1 t1068 t1071 t1080 true a0_0 l0_1)))))) = some r := by rw [if_pos rfl] at H; exact H
                clear H
                have H := H1
                clear H1
                replace H := Option.bind_eq_some_iff.mp H
                obtain ⟨⟨t1094, t1095⟩, A490, H⟩ := H
                replace H : ((laws_markIntS.f kj15 t1077 t1094).bind fun bt1096 => (if bt1096.1 < 0 then (laws_FnExactFinishWord.j1 kj15 l1 t1068 t1071 t1080 true a0_0 l0_1) else ((laws_eqIntS.f kj15 t1080 t1068).bind fun t1098 => (if t1098 = true then (laws_FnExactFinishWord.j1 kj15 l1 t1068 t1071 t1080 (t1083 != t1071) a0_0 l0_1) else (laws_FnExactFinishWord.j1 kj15 l1 t1068 t1071 t1080 true a0_0 l0_1))))) = some r := H
                have A49 := Aside0.mk A490
                clear A490
                replace H := Option.bind_eq_some_iff.mp H
                obtain ⟨⟨t1096, t1097⟩, A500, H⟩ := H
                replace H : (if t1096 < 0 then (laws_FnExactFinishWord.j1 kj15 l1 t1068 t1071 t1080 true a0_0 l0_1) else ((laws_eqIntS.f kj15 t1080 t1068).bind fun t1098 => (if t1098 = true then (laws_FnExactFinishWord.j1 kj15 l1 t1068 t1071 t1080 (t1083 != t1071) a0_0 l0_1) else (laws_FnExactFinishWord.j1 kj15 l1 t1068 t1071 t1080 true a0_0 l0_1)))) = some r := H
                have A50 := Aside0.mk A500
                clear A500
                have HC51 := Aside0.mk H
                clear H
                try go_wp2
                have n0_ := Aside0.mk (Kd.R_drew HO_6.out)
                have n1_ := Aside0.mk (Kd.R_drew HO_9.out)
                have n2_ := Aside0.mk (Kd.R_drew HO_10.out)
                have n3_ := Aside0.mk (Kd.R_drew HO_1077001.out)
                have n4_ := Aside0.mk (blk_drew BK1059.out)
                have n5_ := Aside0.mk (blk_drew BK1076.out)
                have n6_ := Aside0.mk (below_drew1 HB.out)
                clear HO_6
                clear HO_9
                clear HO_10
                clear HO_1077001
                clear BK1059
                clear BK1076
                clear HB
                have HO_6 := n0_
                have HO_9 := n1_
                have HO_10 := n2_
                have HO_1077001 := n3_
                have BK1059 := n4_
                have BK1076 := n5_
                have HB := n6_
                clear n0_ n1_ n2_ n3_ n4_ n5_ n6_
                refine start_ (n := 5) (S := fun w' => w'.cell? ⟨gb1076, 0, none⟩ = some (.int .i64 t1072) ∧ w'.cell? ⟨gb1076, 1, none⟩ = some (.slice Ao31 t1073.length co31) ∧ w'.cell? ⟨gb1059, 0, none⟩ = some (.int .i64 a0_0) ∧ w'.cell? ⟨gb1059, 1, none⟩ = some (.slice A0_1 l0_1.length c0_1)) (ds := []) #[false, false, false, false, false] (by kernel_rfl) rfl rfl ⟨(blk_cell BK1076.out 0).trans rfl, (blk_cell BK1076.out 1).trans rfl, (blk_cell BK1059.out 0).trans rfl, (blk_cell BK1059.out 1).trans rfl⟩ (fun hHeld => ?_)
                generalize wc.drew = w52 at HO_6 HO_9 HO_10 HO_1077001 BK1059 BK1076 HB hHeld ⊢
                refine take_ (i := 0) (N := some 52) (v := ?_) (a' := ?_) #[true, false, false, false, false] rfl rfl (by kernel_rfl) (fun _ _ _ h => h) (Or.inl ⟨by rfl, ?_⟩) hHeld ?_ ?_
                rotate_left
                · rintro w' ⟨s0, s1, s2, s3⟩
                  go_simp
                  with_reducible rfl
                rotate_left
                · simp only [Act.put, List.setIfInBounds_toArray, List.set_cons_zero, List.set_cons_succ, i64_w, i32_w]
                  rfl
                refine take_ (i := 1) (N := some 53) (v := ?_) (a' := ?_) #[true, true, false, false, false] rfl rfl (by kernel_rfl) (fun _ _ _ h => h) (Or.inl ⟨by rfl, ?_⟩) hHeld ?_ ?_
                rotate_left
                · rintro w' ⟨s0, s1, s2, s3⟩
                  go_simp
                  with_reducible rfl
                rotate_left
                · simp only [Act.put, List.setIfInBounds_toArray, List.set_cons_zero, List.set_cons_succ, i64_w, i32_w]
                  rfl
                refine one_ (i := 2) (N := some 54) #[true, true, true, false, false] rfl rfl (by kernel_rfl) (by decide) (fun K hK => ?_)
                refine goes_ Try.func17 (by kernel_rfl) rfl #[.agg #[.int .i64 a0_0, .slice A0_1 l0_1.length c0_1]] (by rfl) rfl rfl (by (try simp only [List.map_toArray, List.map_cons, List.map_nil]); first | done | rfl | (simp only [List.length_drop, List.length_take]; rfl)) ?_
                with_reducible refine (laws_toSpace.calls kj15 a0_0 _ _ l0_1 t1085 t1086 _ ?side1 ?side2 A43.out).mono ?_
                (case side1 => repeat (first | exact (Kd.C_below HR0_1.out HB.out) | (with_reducible refine Kd.C_alloc ?_ _) | (with_reducible refine Kd.C_drewN ?_ _) | (with_reducible refine Kd.C_drew ?_)))
                (case side2 => exact HC0_1.out)
                rintro e w53 ⟨v1087, rfl, ho0, hb⟩
                refine ⟨_, rfl, ?_⟩
                have n0_ := Aside0.mk (Kd.R_elder' (by (with_reducible repeat (first | apply Kd.R_alloc | apply Kd.R_drewN | apply Kd.R_drew)); exact HO_6.out) (Kd.R_base ho0) hb)
                have n1_ := Aside0.mk (Kd.R_elder' (by (with_reducible repeat (first | apply Kd.R_alloc | apply Kd.R_drewN | apply Kd.R_drew)); exact HO_9.out) (Kd.R_base ho0) hb)
                have n2_ := Aside0.mk (Kd.R_elder' (by (with_reducible repeat (first | apply Kd.R_alloc | apply Kd.R_drewN | apply Kd.R_drew)); exact HO_10.out) (Kd.R_base ho0) hb)
                have n3_ := Aside0.mk (Kd.R_elder' (by (with_reducible repeat (first | apply Kd.R_alloc | apply Kd.R_drewN | apply Kd.R_drew)); exact HO_1077001.out) (Kd.R_base ho0) hb)
                have n4_ := Aside0.mk (Kd.R_lower (Kd.R_new' (Kd.R_new' (Kd.R_new' (Kd.R_new' ho0 (Kd.R_lt (by (with_reducible repeat (first | apply Kd.R_alloc | apply Kd.R_drewN | apply Kd.R_drew)); exact HO_6.out))) (Kd.R_lt (by (with_reducible repeat (first | apply Kd.R_alloc | apply Kd.R_drewN | apply Kd.R_drew)); exact HO_9.out))) (Kd.R_lt (by (with_reducible repeat (first | apply Kd.R_alloc | apply Kd.R_drewN | apply Kd.R_drew)); exact HO_10.out))) (Kd.R_lt (by (with_reducible repeat (first | apply Kd.R_alloc | apply Kd.R_drewN | apply Kd.R_drew)); exact HO_1077001.out))) (below_size (by repeat (first | (with_reducible first | exact HB.out | apply below_alloc | apply pw_below_drewN | apply below_drew1 | refine below_set ?_ GE1059.out | refine below_set ?_ GE1076.out) | exact HB.out))))
                have n5_ := Aside0.mk (blk_below (g := gb1059) (o := .cells #[.int .i64 a0_0, .slice A0_1 l0_1.length c0_1] 24 (0, 0)) (by (with_reducible repeat (first | refine blk_drewN ?_ _ | refine blk_drew ?_ | refine blk_alloc ?_ _)); exact BK1059.out) hb)
                have n6_ := Aside0.mk (blk_below (g := gb1076) (o := .cells #[.int .i64 t1072, .slice Ao31 t1073.length co31] 28 (0, 0)) (by (with_reducible repeat (first | refine blk_drewN ?_ _ | refine blk_drew ?_ | refine blk_alloc ?_ _)); exact BK1076.out) hb)
                have n7_ := Aside0.mk (below_step (by repeat (first | (with_reducible first | exact HB.out | apply below_alloc | apply pw_below_drewN | apply below_drew1 | refine below_set ?_ GE1059.out | refine below_set ?_ GE1076.out) | exact HB.out)) hb)
                clear HO_6
                clear HO_9
                clear HO_10
                clear HO_1077001
                clear BK1059
                clear BK1076
                clear HB
                have HO_6 := n0_
                have HO_9 := n1_
                have HO_10 := n2_
                have HO_1077001 := n3_
                have HO1088 := n4_
                have BK1059 := n5_
                have BK1076 := n6_
                have HB := n7_
                clear n0_ n1_ n2_ n3_ n4_ n5_ n6_ n7_
                (try clear hb)
                (try clear hb2)
                (try clear hk)
                (try clear hi)
                (try clear ho0)
                obtain ⟨Ao54, co54, eo54⟩ := Kd.R_slice HO1088.out
                (first | subst eo54 | (injection eo54 with f1_ f2_ f3_; have f4_ := f1_.symm; have f5_ := f3_.symm; clear f1_ f2_ f3_; subst f4_; subst f5_))
                refine hK.out _ _ ⟨(blk_cell BK1076.out 0).trans rfl, (blk_cell BK1076.out 1).trans rfl, (blk_cell BK1059.out 0).trans rfl, (blk_cell BK1059.out 1).trans rfl⟩ (fun hHeld => ?_)
                clear hK K
                refine norm_ (a' := ?_) ?_ ?_
                rotate_left
                · show Act.put _ (some 54) _ = _
                  simp only [Act.put, List.setIfInBounds_toArray, List.set_cons_zero, List.set_cons_succ, i64_w, i32_w]
                  rfl
                refine one_ (i := 3) (N := some 55) #[true, true, true, true, false] rfl rfl (by kernel_rfl) (by decide) (fun K hK => ?_)
                refine goes_ Try.func19 (by kernel_rfl) rfl #[.agg #[.int .i64 t1072, .slice Ao31 t1073.length co31], .agg #[.int .i64 t1085, .slice Ao54 t1086.length co54]] (by rfl) rfl rfl (by (try simp only [List.map_toArray, List.map_cons, List.map_nil]); first | done | rfl | (simp only [List.length_drop, List.length_take]; rfl)) ?_
                with_reducible refine (laws_eqSpace.calls kj15 t1072 _ _ t1073 t1085 _ _ t1086 true _ ?side1 ?side2 ?side3 ?side4 A44.out).mono ?_
                (case side1 => repeat (first | exact (Kd.R_reads' HO_1077001.out).2.2 | (with_reducible refine Kd.C_alloc ?_ _) | (with_reducible refine Kd.C_drewN ?_ _) | (with_reducible refine Kd.C_drew ?_)))
                (case side2 => exact (Kd.R_reads' HO_1077001.out).2.1)
                (case side3 => repeat (first | exact (Kd.R_reads' HO1088.out).2.2 | (with_reducible refine Kd.C_alloc ?_ _) | (with_reducible refine Kd.C_drewN ?_ _) | (with_reducible refine Kd.C_drew ?_)))
                (case side4 => exact (Kd.R_reads' HO1088.out).2.1)
                rintro e w55 ⟨rfl, hb⟩
                refine ⟨_, rfl, ?_⟩
                have n0_ := Aside0.mk (Kd.R_below (by (with_reducible repeat (first | apply Kd.R_alloc | apply Kd.R_drewN | apply Kd.R_drew)); exact HO_6.out) hb)
                have n1_ := Aside0.mk (Kd.R_below (by (with_reducible repeat (first | apply Kd.R_alloc | apply Kd.R_drewN | apply Kd.R_drew)); exact HO_9.out) hb)
                have n2_ := Aside0.mk (Kd.R_below (by (with_reducible repeat (first | apply Kd.R_alloc | apply Kd.R_drewN | apply Kd.R_drew)); exact HO_10.out) hb)
                have n3_ := Aside0.mk (Kd.R_below (by (with_reducible repeat (first | apply Kd.R_alloc | apply Kd.R_drewN | apply Kd.R_drew)); exact HO_1077001.out) hb)
                have n4_ := Aside0.mk (Kd.R_below (by (with_reducible repeat (first | apply Kd.R_alloc | apply Kd.R_drewN | apply Kd.R_drew)); exact HO1088.out) hb)
                have n5_ := Aside0.mk (blk_below (g := gb1059) (o := .cells #[.int .i64 a0_0, .slice A0_1 l0_1.length c0_1] 24 (0, 0)) (by (with_reducible repeat (first | refine blk_drewN ?_ _ | refine blk_drew ?_ | refine blk_alloc ?_ _)); exact BK1059.out) hb)
                have n6_ := Aside0.mk (blk_below (g := gb1076) (o := .cells #[.int .i64 t1072, .slice Ao31 t1073.length co31] 28 (0, 0)) (by (with_reducible repeat (first | refine blk_drewN ?_ _ | refine blk_drew ?_ | refine blk_alloc ?_ _)); exact BK1076.out) hb)
                have n7_ := Aside0.mk (below_step (by repeat (first | (with_reducible first | exact HB.out | apply below_alloc | apply pw_below_drewN | apply below_drew1 | refine below_set ?_ GE1059.out | refine below_set ?_ GE1076.out) | exact HB.out)) hb)
                clear HO_6
                clear HO_9
                clear HO_10
                clear HO_1077001
                clear HO1088
                clear BK1059
                clear BK1076
                clear HB
                have HO_6 := n0_
                have HO_9 := n1_
                have HO_10 := n2_
                have HO_1077001 := n3_
                have HO1088 := n4_
                have BK1059 := n5_
                have BK1076 := n6_
                have HB := n7_
                clear n0_ n1_ n2_ n3_ n4_ n5_ n6_ n7_
                (try clear hb)
                (try clear hb2)
                (try clear hk)
                (try clear hi)
                refine hK.out _ _ ⟨(blk_cell BK1076.out 0).trans rfl, (blk_cell BK1076.out 1).trans rfl, (blk_cell BK1059.out 0).trans rfl, (blk_cell BK1059.out 1).trans rfl⟩ (fun hHeld => ?_)
                clear hK K
                refine norm_ (a' := ?_) ?_ ?_
                rotate_left
                · show Act.put _ (some 55) _ = _
                  simp only [Act.put, List.setIfInBounds_toArray, List.set_cons_zero, List.set_cons_succ, i64_w, i32_w]
                  rfl
                refine pure_ (i := 4) (N := some 56) (v := ?_) (a' := ?_) #[true, true, true, true, true] rfl rfl (by kernel_rfl) (fun _ _ _ h => h) (Or.inl ⟨by rfl, ?_⟩) ?_ ?_
                rotate_left
                · intro w'
                  go_simp
                  with_reducible rfl
                rotate_left
                · simp only [Act.put, List.setIfInBounds_toArray, List.set_cons_zero, List.set_cons_succ, i64_w, i32_w]
                  rfl
                refine done_ (by kernel_rfl) ?_
                go_upto_region 20 with (first | ((with_reducible refine gate_callee (f := 21) rfl ?_); refine goesL_ (some 59) rfl rfl Try.func21 (by kernel_rfl) rfl #[.slice A1 l1.length c1] rfl (by (try simp only [List.map_toArray, List.map_cons, List.map_nil]); first | done | rfl | (simp only [List.length_drop, List.length_take]; rfl)) ?_; (with_reducible refine (laws_toIntS.calls kj15 _ _ l1 t1090 _ ?side1 ?side2 A46.out).mono ?_); (case side1 => repeat (first | exact (Kd.C_below HR1.out HB.out) | (with_reducible refine Kd.C_alloc ?_ _) | (with_reducible refine Kd.C_drewN ?_ _) | (with_reducible refine Kd.C_drew ?_))); (case side2 => exact HC1.out); rintro e w56 ⟨v1091, rfl, ho0, hb⟩; refine ⟨_, rfl, ?_⟩; have n0_ := Aside0.mk (Kd.R_elder' (by (with_reducible repeat (first | apply Kd.R_alloc | apply Kd.R_drewN | apply Kd.R_drew)); exact HO_6.out) (Kd.R_base ho0) hb); have n1_ := Aside0.mk (Kd.R_elder' (by (with_reducible repeat (first | apply Kd.R_alloc | apply Kd.R_drewN | apply Kd.R_drew)); exact HO_9.out) (Kd.R_base ho0) hb); have n2_ := Aside0.mk (Kd.R_elder' (by (with_reducible repeat (first | apply Kd.R_alloc | apply Kd.R_drewN | apply Kd.R_drew)); exact HO_10.out) (Kd.R_base ho0) hb); have n3_ := Aside0.mk (Kd.R_elder' (by (with_reducible repeat (first | apply Kd.R_alloc | apply Kd.R_drewN | apply Kd.R_drew)); exact HO_1077001.out) (Kd.R_base ho0) hb); have n4_ := Aside0.mk (Kd.R_elder' (by (with_reducible repeat (first | apply Kd.R_alloc | apply Kd.R_drewN | apply Kd.R_drew)); exact HO1088.out) (Kd.R_base ho0) hb); have n5_ := Aside0.mk (Kd.R_lower (Kd.R_new' (Kd.R_new' (Kd.R_new' (Kd.R_new' (Kd.R_new' ho0 (Kd.R_lt (by (with_reducible repeat (first | apply Kd.R_alloc | apply Kd.R_drewN | apply Kd.R_drew)); exact HO_6.out))) (Kd.R_lt (by (with_reducible repeat (first | apply Kd.R_alloc | apply Kd.R_drewN | apply Kd.R_drew)); exact HO_9.out))) (Kd.R_lt (by (with_reducible repeat (first | apply Kd.R_alloc | apply Kd.R_drewN | apply Kd.R_drew)); exact HO_10.out))) (Kd.R_lt (by (with_reducible repeat (first | apply Kd.R_alloc | apply Kd.R_drewN | apply Kd.R_drew)); exact HO_1077001.out))) (Kd.R_lt (by (with_reducible repeat (first | apply Kd.R_alloc | apply Kd.R_drewN | apply Kd.R_drew)); exact HO1088.out))) (below_size (by repeat (first | (with_reducible first | exact HB.out | apply below_alloc | apply pw_below_drewN | apply below_drew1 | refine below_set ?_ GE1059.out | refine below_set ?_ GE1076.out) | exact HB.out)))); have n6_ := Aside0.mk (blk_below (g := gb1059) (o := .cells #[.int .i64 a0_0, .slice A0_1 l0_1.length c0_1] 24 (0, 0)) (by (with_reducible repeat (first | refine blk_drewN ?_ _ | refine blk_drew ?_ | refine blk_alloc ?_ _)); exact BK1059.out) hb); have n7_ := Aside0.mk (blk_below (g := gb1076) (o := .cells #[.int .i64 t1072, .slice Ao31 t1073.length co31] 28 (0, 0)) (by (with_reducible repeat (first | refine blk_drewN ?_ _ | refine blk_drew ?_ | refine blk_alloc ?_ _)); exact BK1076.out) hb); have n8_ := Aside0.mk (below_step (by repeat (first | (with_reducible first | exact HB.out | apply below_alloc | apply pw_below_drewN | apply below_drew1 | refine below_set ?_ GE1059.out | refine below_set ?_ GE1076.out) | exact HB.out)) hb); clear HO_6; clear HO_9; clear HO_10; clear HO_1077001; clear HO1088; clear BK1059; clear BK1076; clear HB; have HO_6 := n0_; have HO_9 := n1_; have HO_10 := n2_; have HO_1077001 := n3_; have HO1088 := n4_; have HO1092 := n5_; have BK1059 := n6_; have BK1076 := n7_; have HB := n8_; clear n0_ n1_ n2_ n3_ n4_ n5_ n6_ n7_ n8_; (try clear hb); (try clear hb2); (try clear hk); (try clear hi); (try clear ho0); obtain ⟨Ao57, co57, eo57⟩ := Kd.R_slice HO1092.out; subst eo57) | ((with_reducible refine gate_callee (f := 23) rfl ?_); refine goesL_ (some 60) rfl rfl Try.func23 (by kernel_rfl) rfl #[.slice Ao34 t1077.length co34, .slice Ao57 t1090.length co57] rfl (by (try simp only [List.map_toArray, List.map_cons, List.map_nil]); first | done | rfl | (simp only [List.length_drop, List.length_take]; rfl)) ?_; (with_reducible refine (laws_eqIntS.calls kj15 _ _ t1077 _ _ t1090 true _ ?side1 ?side2 ?side3 ?side4 A47.out).mono ?_); (case side1 => repeat (first | exact (Kd.R_reads' HO_9.out).2.2 | (with_reducible refine Kd.C_alloc ?_ _) | (with_reducible refine Kd.C_drewN ?_ _) | (with_reducible refine Kd.C_drew ?_))); (case side2 => exact (Kd.R_reads' HO_9.out).2.1); (case side3 => repeat (first | exact (Kd.R_reads' HO1092.out).2.2 | (with_reducible refine Kd.C_alloc ?_ _) | (with_reducible refine Kd.C_drewN ?_ _) | (with_reducible refine Kd.C_drew ?_))); (case side4 => exact (Kd.R_reads' HO1092.out).2.1); rintro e w' ⟨rfl, ⟨nd, rfl⟩⟩; refine ⟨_, rfl, ?_⟩; have hnb58 := NB1076_1059.out; have hnc58 := NB1059_1076.out; have hcz59_0 : w56.cell? ⟨gb1076, 0, none⟩ = some (.int .i64 t1072) := (blk_cell BK1076.out 0).trans rfl; have hcz59_1 : w56.cell? ⟨gb1076, 1, none⟩ = some (.slice Ao31 t1073.length co31) := (blk_cell BK1076.out 1).trans rfl; have hfz59_0 := blk_frozen BK1076.out 0; have hfz59_1 := blk_frozen BK1076.out 1) | ((with_reducible refine gate_callee (f := 25) rfl ?_); refine goesL_ (some 64) rfl rfl Try.func25 (by kernel_rfl) rfl #[.agg #[.int .i64 t1072, .slice Ao31 t1073.length co31], .int .i64 1] rfl (by (try simp only [List.map_toArray, List.map_cons, List.map_nil]); first | done | rfl | (simp only [List.length_drop, List.length_take]; rfl)) ?_; (with_reducible refine (laws_markSpace.calls kj15 t1072 (fun k_ => some k_ = (.slice Ao31 t1073.length co31 : Value).ownBlock) (.slice Ao31 t1073.length co31) t1073 1 t1094 t1095 w _ ?side1 ?side2 A49.out).mono ?_); (case side1 => repeat (first | (with_reducible first | exact HB.out | apply below_alloc | apply pw_below_drewN | apply below_drew1 | refine below_set ?_ GE1059.out | refine below_set ?_ GE1076.out) | exact HB.out)); (case side2 => exact Kd.R_tight rfl HO_1077001.out); rintro e w60 ⟨rfl, hy0, hb, hkp⟩; refine ⟨_, rfl, ?_⟩; have n0_ := Aside0.mk (Kd.R_mono (ok' := fun k_ => some k_ ≠ (.slice Ao34 t1077.length co34 : Value).ownBlock ∧ some k_ ≠ (v1081 : Value).ownBlock ∧ some k_ ≠ (.slice Ao31 t1073.length co31 : Value).ownBlock ∧ some k_ ≠ (.slice Ao54 t1086.length co54 : Value).ownBlock ∧ some k_ ≠ (.slice Ao57 t1090.length co57 : Value).ownBlock) (Kd.R_keptB (HO_6.out) hkp (fun k_ hk_ hs_ => (hk_.1.1.2.2) hs_)) (fun k_ hk_ => ⟨hk_.1.1.1.1, hk_.1.1.1.2.1, hk_.1.1.1.2.2, hk_.1.1.2, hk_.1.2⟩)); have n1_ := Aside0.mk (Kd.R_mono (ok' := fun k_ => some k_ ≠ (v1069 : Value).ownBlock ∧ some k_ ≠ (v1081 : Value).ownBlock ∧ some k_ ≠ (.slice Ao31 t1073.length co31 : Value).ownBlock ∧ some k_ ≠ (.slice Ao54 t1086.length co54 : Value).ownBlock ∧ some k_ ≠ (.slice Ao57 t1090.length co57 : Value).ownBlock) (Kd.R_keptB (HO_9.out) hkp (fun k_ hk_ hs_ => (hk_.1.1.2.2) hs_)) (fun k_ hk_ => ⟨hk_.1.1.1.1, hk_.1.1.1.2.1, hk_.1.1.1.2.2, hk_.1.1.2, hk_.1.2⟩)); have n2_ := Aside0.mk (Kd.R_mono (ok' := fun k_ => some k_ ≠ (v1069 : Value).ownBlock ∧ some k_ ≠ (.slice Ao34 t1077.length co34 : Value).ownBlock ∧ some k_ ≠ (.slice Ao31 t1073.length co31 : Value).ownBlock ∧ some k_ ≠ (.slice Ao54 t1086.length co54 : Value).ownBlock ∧ some k_ ≠ (.slice Ao57 t1090.length co57 : Value).ownBlock) (Kd.R_keptB (HO_10.out) hkp (fun k_ hk_ hs_ => (hk_.1.1.2.2) hs_)) (fun k_ hk_ => ⟨hk_.1.1.1.1, hk_.1.1.1.2.1, hk_.1.1.1.2.2, hk_.1.1.2, hk_.1.2⟩)); have n3_ := Aside0.mk (Kd.R_reok rfl hy0 (fun k_ e_ => HO_1077001.out.1 k_ e_)); have n4_ := Aside0.mk (blk_kept (by (with_reducible repeat (first | refine blk_drewN ?_ _ | refine blk_drew ?_ | refine blk_alloc ?_ _)); exact BK1059.out) hkp (fun hs_ => (fun e_ => (Kd.R_ne HO_1077001.out BK1059.out (by decide)) e_) hs_)); have n5_ := Aside0.mk (blk_kept (by (with_reducible repeat (first | refine blk_drewN ?_ _ | refine blk_drew ?_ | refine blk_alloc ?_ _)); exact BK1076.out) hkp (fun hs_ => (fun e_ => (Kd.R_ne HO_1077001.out BK1076.out (by decide)) e_) hs_)); have n6_ := Aside0.mk (Kd.R_mono (ok' := fun k_ => some k_ ≠ (v1069 : Value).ownBlock ∧ some k_ ≠ (.slice Ao34 t1077.length co34 : Value).ownBlock ∧ some k_ ≠ (v1081 : Value).ownBlock ∧ some k_ ≠ (.slice Ao31 t1073.length co31 : Value).ownBlock ∧ some k_ ≠ (.slice Ao57 t1090.length co57 : Value).ownBlock) (Kd.R_keptB (HO1088.out) hkp (fun k_ hk_ hs_ => (hk_.1.2) hs_)) (fun k_ hk_ => ⟨hk_.1.1.1.1.1.2, hk_.1.1.1.1.2, hk_.1.1.1.2, hk_.1.1.2, hk_.1.2⟩)); have n7_ := Aside0.mk (Kd.R_mono (ok' := fun k_ => some k_ ≠ (v1069 : Value).ownBlock ∧ some k_ ≠ (.slice Ao34 t1077.length co34 : Value).ownBlock ∧ some k_ ≠ (v1081 : Value).ownBlock ∧ some k_ ≠ (.slice Ao31 t1073.length co31 : Value).ownBlock ∧ some k_ ≠ (.slice Ao54 t1086.length co54 : Value).ownBlock) (Kd.R_keptB (HO1092.out) hkp (fun k_ hk_ hs_ => (hk_.1.2) hs_)) (fun k_ hk_ => ⟨hk_.1.1.1.1.1.2, hk_.1.1.1.1.2, hk_.1.1.1.2, hk_.1.1.2, hk_.1.2⟩)); have n8_ := Aside0.mk (hb); clear HO_6; clear HO_9; clear HO_10; clear HO_1077001; clear BK1059; clear BK1076; clear HO1088; clear HO1092; clear HB; have HO_6 := n0_; have HO_9 := n1_; have HO_10 := n2_; have HO_1077001 := n3_; have BK1059 := n4_; have BK1076 := n5_; have HO1088 := n6_; have HO1092 := n7_; have HB := n8_; clear n0_ n1_ n2_ n3_ n4_ n5_ n6_ n7_ n8_; (try clear hb); (try clear hkp); (try clear hy0)) | ((with_reducible refine gate_callee (f := 24) rfl ?_); refine goesL_ (some 67) rfl rfl Try.func24 (by kernel_rfl) rfl #[.slice Ao34 t1077.length co34, .int .i64 t1094] rfl (by (try simp only [List.map_toArray, List.map_cons, List.map_nil]); first | done | rfl | (simp only [List.length_drop, List.length_take]; rfl)) ?_; (with_reducible refine (laws_markIntS.calls kj15 (fun k_ => some k_ = (.slice Ao34 t1077.length co34 : Value).ownBlock) (.slice Ao34 t1077.length co34) t1077 t1094 t1096 t1097 w _ ?side1 ?side2 A50.out).mono ?_); (case side1 => repeat (first | (with_reducible first | exact HB.out | apply below_alloc | apply pw_below_drewN | apply below_drew1 | refine below_set ?_ GE1059.out | refine below_set ?_ GE1076.out) | exact HB.out)); (case side2 => exact Kd.R_tight rfl HO_9.out); rintro e w61 ⟨rfl, hy0, hb, hkp⟩; refine ⟨_, rfl, ?_⟩; have n0_ := Aside0.mk (Kd.R_mono (ok' := fun k_ => some k_ ≠ (.slice Ao34 t1077.length co34 : Value).ownBlock ∧ some k_ ≠ (v1081 : Value).ownBlock ∧ some k_ ≠ (.slice Ao31 t1073.length co31 : Value).ownBlock ∧ some k_ ≠ (.slice Ao54 t1086.length co54 : Value).ownBlock ∧ some k_ ≠ (.slice Ao57 t1090.length co57 : Value).ownBlock) (Kd.R_keptB (HO_6.out) hkp (fun k_ hk_ hs_ => (hk_.1) hs_)) (fun k_ hk_ => ⟨hk_.1.1, hk_.1.2.1, hk_.1.2.2.1, hk_.1.2.2.2.1, hk_.1.2.2.2.2⟩)); have n1_ := Aside0.mk (Kd.R_reok rfl hy0 (fun k_ e_ => HO_9.out.1 k_ e_)); have n2_ := Aside0.mk (Kd.R_mono (ok' := fun k_ => some k_ ≠ (v1069 : Value).ownBlock ∧ some k_ ≠ (.slice Ao34 t1077.length co34 : Value).ownBlock ∧ some k_ ≠ (.slice Ao31 t1073.length co31 : Value).ownBlock ∧ some k_ ≠ (.slice Ao54 t1086.length co54 : Value).ownBlock ∧ some k_ ≠ (.slice Ao57 t1090.length co57 : Value).ownBlock) (Kd.R_keptB (HO_10.out) hkp (fun k_ hk_ hs_ => (hk_.2.1) hs_)) (fun k_ hk_ => ⟨hk_.1.1, hk_.1.2.1, hk_.1.2.2.1, hk_.1.2.2.2.1, hk_.1.2.2.2.2⟩)); have n3_ := Aside0.mk (Kd.R_mono (ok' := fun k_ => some k_ ≠ (v1069 : Value).ownBlock ∧ some k_ ≠ (.slice Ao34 t1077.length co34 : Value).ownBlock ∧ some k_ ≠ (v1081 : Value).ownBlock ∧ some k_ ≠ (.slice Ao54 t1086.length co54 : Value).ownBlock ∧ some k_ ≠ (.slice Ao57 t1090.length co57 : Value).ownBlock) (Kd.R_keptB (HO_1077001.out) hkp (fun k_ hk_ hs_ => (hk_.1.1.2.1) hs_)) (fun k_ hk_ => ⟨hk_.1.1.1.1, hk_.1.1.1.2.1, hk_.1.1.1.2.2, hk_.1.1.2, hk_.1.2⟩)); have n4_ := Aside0.mk (blk_kept (by (with_reducible repeat (first | refine blk_drewN ?_ _ | refine blk_drew ?_ | refine blk_alloc ?_ _)); exact BK1059.out) hkp (fun hs_ => (fun e_ => (Kd.R_ne HO_9.out BK1059.out (by decide)) e_) hs_)); have n5_ := Aside0.mk (blk_kept (by (with_reducible repeat (first | refine blk_drewN ?_ _ | refine blk_drew ?_ | refine blk_alloc ?_ _)); exact BK1076.out) hkp (fun hs_ => (fun e_ => (Kd.R_ne HO_9.out BK1076.out (by decide)) e_) hs_)); have n6_ := Aside0.mk (Kd.R_mono (ok' := fun k_ => some k_ ≠ (v1069 : Value).ownBlock ∧ some k_ ≠ (.slice Ao34 t1077.length co34 : Value).ownBlock ∧ some k_ ≠ (v1081 : Value).ownBlock ∧ some k_ ≠ (.slice Ao31 t1073.length co31 : Value).ownBlock ∧ some k_ ≠ (.slice Ao57 t1090.length co57 : Value).ownBlock) (Kd.R_keptB (HO1088.out) hkp (fun k_ hk_ hs_ => (hk_.2.1) hs_)) (fun k_ hk_ => ⟨hk_.1.1, hk_.1.2.1, hk_.1.2.2.1, hk_.1.2.2.2.1, hk_.1.2.2.2.2⟩)); have n7_ := Aside0.mk (Kd.R_mono (ok' := fun k_ => some k_ ≠ (v1069 : Value).ownBlock ∧ some k_ ≠ (.slice Ao34 t1077.length co34 : Value).ownBlock ∧ some k_ ≠ (v1081 : Value).ownBlock ∧ some k_ ≠ (.slice Ao31 t1073.length co31 : Value).ownBlock ∧ some k_ ≠ (.slice Ao54 t1086.length co54 : Value).ownBlock) (Kd.R_keptB (HO1092.out) hkp (fun k_ hk_ hs_ => (hk_.2.1) hs_)) (fun k_ hk_ => ⟨hk_.1.1, hk_.1.2.1, hk_.1.2.2.1, hk_.1.2.2.2.1, hk_.1.2.2.2.2⟩)); have n8_ := Aside0.mk (hb); clear HO_6; clear HO_9; clear HO_10; clear HO_1077001; clear BK1059; clear BK1076; clear HO1088; clear HO1092; clear HB; have HO_6 := n0_; have HO_9 := n1_; have HO_10 := n2_; have HO_1077001 := n3_; have BK1059 := n4_; have BK1076 := n5_; have HO1088 := n6_; have HO1092 := n7_; have HB := n8_; clear n0_ n1_ n2_ n3_ n4_ n5_ n6_ n7_ n8_; (try clear hb); (try clear hkp); (try clear hy0)))
                (try simp only [Act.put, List.setIfInBounds_toArray, List.set_cons_zero, List.set_cons_succ])
                go_cut [80] (fun v80 wc => ∃ (kq : Nat) (x80_50 : Bool), v80 = .bool x80_50 ∧ Aside0 (laws_FnExactFinishWord.j1 kq l1 t1068 t1071 t1080 x80_50 a0_0 l0_1 = some r) ∧ Aside0 (kq ≤ kj15) ∧ Aside0 (Kd.R (Kd.int .i64) 3 wc w.heap.size (fun k_ => some k_ ≠ (v1081 : Value).ownBlock ∧ some k_ ≠ ((.slice Ao31 t1073.length co31) : Value).ownBlock) v1069 t1068) ∧ Aside0 (Kd.R (Kd.int .i64) 3 wc w.heap.size (fun k_ => some k_ ≠ (v1069 : Value).ownBlock ∧ some k_ ≠ ((.slice Ao31 t1073.length co31) : Value).ownBlock) v1081 t1080) ∧ Aside0 (Kd.R (Kd.int .i64) 3 wc w.heap.size (fun k_ => some k_ ≠ (v1069 : Value).ownBlock ∧ some k_ ≠ (v1081 : Value).ownBlock) (.slice Ao31 t1073.length co31) t1095) ∧ Aside0 (wc.heap[gb1059]? = some (.cells #[.int .i64 a0_0, (.slice A0_1 l0_1.length c0_1)] 24 (0, 0))) ∧ Aside0 (wc.heap[gb1076]? = some (.cells #[.int .i64 t1072, (.slice Ao31 t1073.length co31)] 28 (0, 0))) ∧ Aside0 (Below w.heap.size w wc))
                case first =>
                  have H := HC51.out
                  clear HC51
                  by_cases c62 : t1096 < 0
                  · rw [if_pos c62] at H
                    have c62b0 : decide (t1096 < 0) = true := decide_eq_true c62
                    clear c62
                    (first | rw [c62b0] | (simp only [i64_w, i32_w]; rw [c62b0]) | skip)
                    have H' := Aside0.mk H
                    clear H
                    go_wp2
                    go_meet
                    case rel => exact ⟨_, (true), (by first | rfl | (simp; done) | (simp [*]; done)), H', ⟨by have := HJ15.out; first | omega | exact Nat.le_refl _⟩, ⟨by (with_reducible repeat (first | apply Kd.R_alloc | apply Kd.R_drewN | apply Kd.R_drew)); exact Kd.R_mono HO_6.out (fun _ hk => ⟨hk.2.1, hk.2.2.1⟩)⟩, ⟨by (with_reducible repeat (first | apply Kd.R_alloc | apply Kd.R_drewN | apply Kd.R_drew)); exact Kd.R_mono HO_10.out (fun _ hk => ⟨hk.1, hk.2.2.1⟩)⟩, ⟨by (with_reducible repeat (first | apply Kd.R_alloc | apply Kd.R_drewN | apply Kd.R_drew)); exact Kd.R_mono HO_1077001.out (fun _ hk => ⟨hk.1, hk.2.2.1⟩)⟩, ⟨by (with_reducible repeat (first | refine blk_drewN ?_ _ | refine blk_drew ?_ | refine blk_alloc ?_ _)); exact BK1059.out⟩, ⟨by (with_reducible repeat (first | refine blk_drewN ?_ _ | refine blk_drew ?_ | refine blk_alloc ?_ _)); exact BK1076.out⟩, ⟨by repeat (first | (with_reducible first | exact HB.out | apply below_alloc | apply pw_below_drewN | apply below_drew1 | refine below_set ?_ GE1059.out | refine below_set ?_ GE1076.out) | exact HB.out)⟩⟩
                  · rw [if_neg c62] at H
                    have c62b0 : decide (t1096 < 0) = false := decide_eq_false c62
                    clear c62
                    (first | rw [c62b0] | (simp only [i64_w, i32_w]; rw [c62b0]) | skip)
                    replace H := Option.bind_eq_some_iff.mp H
                    obtain ⟨t1098, A630, H⟩ := H
                    replace H : (if t1098 = true then (laws_FnExactFinishWord.j1 kj15 l1 t1068 t1071 t1080 (t1083 != t1071) a0_0 l0_1) else (laws_FnExactFinishWord.j1 kj15 l1 t1068 t1071 t1080 true a0_0 l0_1)) = some r := H
                    have A63 := Aside0.mk A630
                    clear A630
                    by_cases c64 : t1098 = true
                    · subst c64
                      have H1 : (laws_FnExactFinishWord.j1 kj15 l1 t1068 t1071 t1080 (t1083 != t1071) a0_0 l0_1) = some r := by rw [if_pos rfl] at H; exact H
                      clear H
                      have H := H1
                      clear H1
                      have H' := Aside0.mk H
                      clear H
                      obtain ⟨Ao65, co65, eo65⟩ := Kd.R_slice HO_10.out
                      subst eo65
                      obtain ⟨Ao66, co66, eo66⟩ := Kd.R_slice HO_6.out
                      subst eo66
                      go_wp2_with (first | (go_at_call 23; (with_reducible refine (laws_eqIntS.calls kj15 _ _ t1080 _ _ t1068 true _ ?side1 ?side2 ?side3 ?side4 A63.out).mono ?_); (case side1 => repeat (first | exact (Kd.R_reads' HO_10.out).2.2 | (with_reducible refine Kd.C_alloc ?_ _) | (with_reducible refine Kd.C_drewN ?_ _) | (with_reducible refine Kd.C_drew ?_))); (case side2 => exact (Kd.R_reads' HO_10.out).2.1); (case side3 => repeat (first | exact (Kd.R_reads' HO_6.out).2.2 | (with_reducible refine Kd.C_alloc ?_ _) | (with_reducible refine Kd.C_drewN ?_ _) | (with_reducible refine Kd.C_drew ?_))); (case side4 => exact (Kd.R_reads' HO_6.out).2.1); rintro e w' ⟨rfl, ⟨nd, rfl⟩⟩))
                      go_meet
                      case rel => exact ⟨_, ((t1083 != t1071)), (by first | rfl | (simp; done) | (simp [*]; done)), H', ⟨by have := HJ15.out; first | omega | exact Nat.le_refl _⟩, ⟨by (with_reducible repeat (first | apply Kd.R_alloc | apply Kd.R_drewN | apply Kd.R_drew)); exact Kd.R_mono HO_6.out (fun _ hk => ⟨hk.2.1, hk.2.2.1⟩)⟩, ⟨by (with_reducible repeat (first | apply Kd.R_alloc | apply Kd.R_drewN | apply Kd.R_drew)); exact Kd.R_mono HO_10.out (fun _ hk => ⟨hk.1, hk.2.2.1⟩)⟩, ⟨by (with_reducible repeat (first | apply Kd.R_alloc | apply Kd.R_drewN | apply Kd.R_drew)); exact Kd.R_mono HO_1077001.out (fun _ hk => ⟨hk.1, hk.2.2.1⟩)⟩, ⟨by (with_reducible repeat (first | refine blk_drewN ?_ _ | refine blk_drew ?_ | refine blk_alloc ?_ _)); exact BK1059.out⟩, ⟨by (with_reducible repeat (first | refine blk_drewN ?_ _ | refine blk_drew ?_ | refine blk_alloc ?_ _)); exact BK1076.out⟩, ⟨by repeat (first | (with_reducible first | exact HB.out | apply below_alloc | apply pw_below_drewN | apply below_drew1 | refine below_set ?_ GE1059.out | refine below_set ?_ GE1076.out) | exact HB.out)⟩⟩
                    · replace c64 := Bool.eq_false_iff.mpr c64
                      subst c64
                      have H1 : (laws_FnExactFinishWord.j1 kj15 l1 t1068 t1071 t1080 true a0_0 l0_1) = some r := by rw [if_neg (show ¬ (false = true) by decide)] at H; exact H
                      clear H
                      have H := H1
                      clear H1
                      have H' := Aside0.mk H
                      clear H
                      obtain ⟨Ao67, co67, eo67⟩ := Kd.R_slice HO_10.out
                      subst eo67
                      obtain ⟨Ao68, co68, eo68⟩ := Kd.R_slice HO_6.out
                      subst eo68
                      go_wp2_with (first | (go_at_call 23; (with_reducible refine (laws_eqIntS.calls kj15 _ _ t1080 _ _ t1068 false _ ?side1 ?side2 ?side3 ?side4 A63.out).mono ?_); (case side1 => repeat (first | exact (Kd.R_reads' HO_10.out).2.2 | (with_reducible refine Kd.C_alloc ?_ _) | (with_reducible refine Kd.C_drewN ?_ _) | (with_reducible refine Kd.C_drew ?_))); (case side2 => exact (Kd.R_reads' HO_10.out).2.1); (case side3 => repeat (first | exact (Kd.R_reads' HO_6.out).2.2 | (with_reducible refine Kd.C_alloc ?_ _) | (with_reducible refine Kd.C_drewN ?_ _) | (with_reducible refine Kd.C_drew ?_))); (case side4 => exact (Kd.R_reads' HO_6.out).2.1); rintro e w' ⟨rfl, ⟨nd, rfl⟩⟩))
                      go_meet
                      case rel => exact ⟨_, (true), (by first | rfl | (simp; done) | (simp [*]; done)), H', ⟨by have := HJ15.out; first | omega | exact Nat.le_refl _⟩, ⟨by (with_reducible repeat (first | apply Kd.R_alloc | apply Kd.R_drewN | apply Kd.R_drew)); exact Kd.R_mono HO_6.out (fun _ hk => ⟨hk.2.1, hk.2.2.1⟩)⟩, ⟨by (with_reducible repeat (first | apply Kd.R_alloc | apply Kd.R_drewN | apply Kd.R_drew)); exact Kd.R_mono HO_10.out (fun _ hk => ⟨hk.1, hk.2.2.1⟩)⟩, ⟨by (with_reducible repeat (first | apply Kd.R_alloc | apply Kd.R_drewN | apply Kd.R_drew)); exact Kd.R_mono HO_1077001.out (fun _ hk => ⟨hk.1, hk.2.2.1⟩)⟩, ⟨by (with_reducible repeat (first | refine blk_drewN ?_ _ | refine blk_drew ?_ | refine blk_alloc ?_ _)); exact BK1059.out⟩, ⟨by (with_reducible repeat (first | refine blk_drewN ?_ _ | refine blk_drew ?_ | refine blk_alloc ?_ _)); exact BK1076.out⟩, ⟨by repeat (first | (with_reducible first | exact HB.out | apply below_alloc | apply pw_below_drewN | apply below_drew1 | refine below_set ?_ GE1059.out | refine below_set ?_ GE1076.out) | exact HB.out)⟩⟩
                case rest =>
                  clear HC51
                  try clear c1
                  try clear c2
                  try clear p2
                  try clear c3
                  try clear c3b0
                  try clear c3b1
                  try clear c4
                  try clear c5
                  try clear c6
                  try clear c6b0
                  try clear c12
                  try clear c15
                  try clear c17
                  try clear c19
                  try clear c21
                  try clear c23
                  try clear c24
                  try clear c25
                  try clear c29
                  try clear c37
                  try clear c42
                  try clear c45
                  try clear c48
                  try clear c51
                  try clear c52
                  try clear c58
                  try clear c62
                  try clear c62b0
                  try clear c64
                  try clear hcz18_0
                  try clear hcz18_1
                  try clear hcz20_0
                  try clear hcz20_1
                  try clear hcz26_0
                  try clear hcz26_1
                  try clear hcz30_0
                  try clear hcz30_1
                  try clear hcz33_0
                  try clear hcz33_1
                  try clear hcz59_0
                  try clear hcz59_1
                  try clear hcz8_0
                  try clear hcz8_1
                  try clear hfz18_0
                  try clear hfz18_1
                  try clear hfz20_0
                  try clear hfz20_1
                  try clear hfz26_0
                  try clear hfz26_1
                  try clear hfz30_0
                  try clear hfz30_1
                  try clear hfz33_0
                  try clear hfz33_1
                  try clear hfz59_0
                  try clear hfz59_1
                  try clear hfz8_0
                  try clear hfz8_1
                  try clear p2
                  obtain ⟨kq, x80_50, rfl, HA, HJ50, HO_6, HO_10, HO_1077001, BK1059, BK1076, HB⟩ := hcut
                  have hl1077001_50 := (Kd.R_reads' HO_1077001.out).1
                  rw [hl1077001_50] at HO_1077001
                  (try simp only [hl1077001_50])
                  (try simp only [hl1077001_50] at BK1059)
                  (try simp only [hl1077001_50] at BK1076)
                  (try simp only [hl1077001_50] at HO_6)
                  (try simp only [hl1077001_50] at HO_10)
                  cases kq with
                  | zero => exact absurd HA.out (by simp [laws_FnExactFinishWord.j1])
                  | succ kj50 =>
                    have H := HA.out
                    clear HA
                    simp only [laws_FnExactFinishWord.j1] at H
                    by_cases c69 : x80_50 = true
                    · subst c69
                      have H1 : (some false) = some r := by rw [if_pos rfl] at H; exact H
                      clear H
                      have H := H1
                      clear H1
                      obtain rfl := Option.some.inj H
                      go_wp2
                      go_ret
                      exact ⟨by first | rfl | (simp [errW_none, errW_some] <;> rfl) | (simp [*, errW_none, errW_some] <;> rfl), by repeat (first | (with_reducible first | exact HB.out | apply below_alloc | apply pw_below_drewN | apply below_drew1 | refine below_set ?_ GE1059.out | refine below_set ?_ GE1076.out) | exact HB.out)⟩
                    · replace c69 := Bool.eq_false_iff.mpr c69
                      subst c69
                      have H1 : ((laws_markIntS.f kj50 t1080 1).bind fun bt1099 => ((laws_heldIntS.f kj50 bt1099.2 1).bind fun t1101 => (if t1101 < 0 then (some false) else (if t1101 = bt1099.1 then ((laws_toSpace.f kj50 a0_0 l0_1).bind fun bt1102 => ((laws_toIntS.f kj50 l1).bind fun t1106 => ((impl_FinishWord.f kj50 bt1102.1 bt1102.2 t1106).bind fun bt1109 => ((laws_eqIntS.f kj50 bt1109.1 t1068).bind fun t1113 => (if t1113 = true then (laws_FnExactFinishWord.j2 kj50 bt1099.2 bt1099.1 (bt1109.2 != t1071)) else (laws_FnExactFinishWord.j2 kj50 bt1099.2 bt1099.1 true)))))) else (some false))))) = some r := by rw [if_neg (show ¬ (false = true) by decide)] at H; exact H
                      clear H
                      have H := H1
                      clear H1
                      replace H := Option.bind_eq_some_iff.mp H
                      obtain ⟨⟨t1099, t1100⟩, A700, H⟩ := H
                      replace H : ((laws_heldIntS.f kj50 t1100 1).bind fun t1101 => (if t1101 < 0 then (some false) else (if t1101 = t1099 then ((laws_toSpace.f kj50 a0_0 l0_1).bind fun bt1102 => ((laws_toIntS.f kj50 l1).bind fun t1106 => ((impl_FinishWord.f kj50 bt1102.1 bt1102.2 t1106).bind fun bt1109 => ((laws_eqIntS.f kj50 bt1109.1 t1068).bind fun t1113 => (if t1113 = true then (laws_FnExactFinishWord.j2 kj50 t1100 t1099 (bt1109.2 != t1071)) else (laws_FnExactFinishWord.j2 kj50 t1100 t1099 true)))))) else (some false)))) = some r := H
                      have A70 := Aside0.mk A700
                      clear A700
                      replace H := Option.bind_eq_some_iff.mp H
                      obtain ⟨t1101, A710, H⟩ := H
                      replace H : (if t1101 < 0 then (some false) else (if t1101 = t1099 then ((laws_toSpace.f kj50 a0_0 l0_1).bind fun bt1102 => ((laws_toIntS.f kj50 l1).bind fun t1106 => ((impl_FinishWord.f kj50 bt1102.1 bt1102.2 t1106).bind fun bt1109 => ((laws_eqIntS.f kj50 bt1109.1 t1068).bind fun t1113 => (if t1113 = true then (laws_FnExactFinishWord.j2 kj50 t1100 t1099 (bt1109.2 != t1071)) else (laws_FnExactFinishWord.j2 kj50 t1100 t1099 true)))))) else (some false))) = some r := H
                      have A71 := Aside0.mk A710
                      clear A710
                      by_cases c72 : t1101 < 0
                      · rw [if_pos c72] at H
                        have c72b0 : decide (t1101 < 0) = true := decide_eq_true c72
                        clear c72
                        obtain rfl := Option.some.inj H
                        obtain ⟨Ao73, co73, eo73⟩ := Kd.R_slice HO_10.out
                        subst eo73
                        go_wp2_with (first | ((with_reducible refine gate_callee (f := 24) rfl ?_); refine goesL_ (some 83) rfl rfl Try.func24 (by kernel_rfl) rfl #[.slice Ao73 t1080.length co73, .int .i64 1] rfl (by (try simp only [List.map_toArray, List.map_cons, List.map_nil]); first | done | rfl | (simp only [List.length_drop, List.length_take]; rfl)) ?_; (with_reducible refine (laws_markIntS.calls kj50 (fun k_ => some k_ = (.slice Ao73 t1080.length co73 : Value).ownBlock) (.slice Ao73 t1080.length co73) t1080 1 t1099 t1100 w _ ?side1 ?side2 A70.out).mono ?_); (case side1 => repeat (first | (with_reducible first | exact HB.out | apply below_alloc | apply pw_below_drewN | apply below_drew1 | refine below_set ?_ GE1059.out | refine below_set ?_ GE1076.out) | exact HB.out)); (case side2 => exact Kd.R_tight rfl HO_10.out); rintro e w74 ⟨rfl, hy0, hb, hkp⟩; refine ⟨_, rfl, ?_⟩; have n0_ := Aside0.mk (Kd.R_mono (ok' := fun k_ => some k_ ≠ (.slice Ao73 t1080.length co73 : Value).ownBlock ∧ some k_ ≠ (.slice Ao31 t1095.length co31 : Value).ownBlock) (Kd.R_keptB (HO_6.out) hkp (fun k_ hk_ hs_ => (hk_.1) hs_)) (fun k_ hk_ => ⟨hk_.1.1, hk_.1.2⟩)); have n1_ := Aside0.mk (Kd.R_reok rfl hy0 (fun k_ e_ => HO_10.out.1 k_ e_)); have n2_ := Aside0.mk (Kd.R_mono (ok' := fun k_ => some k_ ≠ (v1069 : Value).ownBlock ∧ some k_ ≠ (.slice Ao73 t1080.length co73 : Value).ownBlock) (Kd.R_keptB (HO_1077001.out) hkp (fun k_ hk_ hs_ => (hk_.2) hs_)) (fun k_ hk_ => ⟨hk_.1.1, hk_.1.2⟩)); have n3_ := Aside0.mk (blk_kept (by (with_reducible repeat (first | refine blk_drewN ?_ _ | refine blk_drew ?_ | refine blk_alloc ?_ _)); exact BK1059.out) hkp (fun hs_ => (fun e_ => (Kd.R_ne HO_10.out BK1059.out (by decide)) e_) hs_)); have n4_ := Aside0.mk (blk_kept (by (with_reducible repeat (first | refine blk_drewN ?_ _ | refine blk_drew ?_ | refine blk_alloc ?_ _)); exact BK1076.out) hkp (fun hs_ => (fun e_ => (Kd.R_ne HO_10.out BK1076.out (by decide)) e_) hs_)); have n5_ := Aside0.mk (hb); clear HO_6; clear HO_10; clear HO_1077001; clear BK1059; clear BK1076; clear HB; have HO_6 := n0_; have HO_10 := n1_; have HO_1077001 := n2_; have BK1059 := n3_; have BK1076 := n4_; have HB := n5_; clear n0_ n1_ n2_ n3_ n4_ n5_; (try clear hb); (try clear hkp); (try clear hy0)) | ((with_reducible refine gate_callee (f := 34) rfl ?_); refine goesL_ (some 86) rfl rfl Try.func34 (by kernel_rfl) rfl #[.slice Ao73 t1100.length co73, .int .i64 1] rfl (by (try simp only [List.map_toArray, List.map_cons, List.map_nil]); first | done | (rw [show t1100.length = t1080.length from (Kd.R_reads' HO_10.out).1.symm] <;> rfl) | rfl | (simp only [List.length_drop, List.length_take]; rfl)) ?_; (with_reducible refine (laws_heldIntS.calls kj50 _ _ t1100 1 t1101 _ ?side1 ?side2 A71.out).mono ?_); (case side1 => repeat (first | exact (Kd.R_reads' HO_10.out).2.2 | (with_reducible refine Kd.C_alloc ?_ _) | (with_reducible refine Kd.C_drewN ?_ _) | (with_reducible refine Kd.C_drew ?_))); (case side2 => rw [show t1100.length = t1080.length from (Kd.R_reads' HO_10.out).1.symm]; exact (Kd.R_reads' HO_10.out).2.1); rintro e w' ⟨rfl, ⟨nd, rfl⟩⟩; refine ⟨_, rfl, ?_⟩))
                        go_ret
                        exact ⟨by first | rfl | (simp [errW_none, errW_some] <;> rfl) | (simp [*, errW_none, errW_some] <;> rfl), by repeat (first | (with_reducible first | exact HB.out | apply below_alloc | apply pw_below_drewN | apply below_drew1 | refine below_set ?_ GE1059.out | refine below_set ?_ GE1076.out) | exact HB.out)⟩
                      · rw [if_neg c72] at H
                        have c72b0 : decide (t1101 < 0) = false := decide_eq_false c72
                        clear c72
                        by_cases c75 : t1101 = t1099
                        · rw [if_pos c75] at H
                          have c75b0 : (t1101 == t1099) = true := beq_iff_eq.mpr c75
                          have c75b1 : (t1101 != t1099) = false := bne_eq_false_iff_eq.mpr c75
                          clear c75
                          replace H := Option.bind_eq_some_iff.mp H
                          obtain ⟨⟨t1102, t1103⟩, A760, H⟩ := H
                          replace H : ((laws_toIntS.f kj50 l1).bind fun t1106 => ((impl_FinishWord.f kj50 t1102 t1103 t1106).bind fun bt1109 => ((laws_eqIntS.f kj50 bt1109.1 t1068).bind fun t1113 => (if t1113 = true then (laws_FnExactFinishWord.j2 kj50 t1100 t1099 (bt1109.2 != t1071)) else (laws_FnExactFinishWord.j2 kj50 t1100 t1099 true))))) = some r := H
                          have A76 := Aside0.mk A760
                          clear A760
                          replace H := Option.bind_eq_some_iff.mp H
                          obtain ⟨t1106, A770, H⟩ := H
                          replace H : ((impl_FinishWord.f kj50 t1102 t1103 t1106).bind fun bt1109 => ((laws_eqIntS.f kj50 bt1109.1 t1068).bind fun t1113 => (if t1113 = true then (laws_FnExactFinishWord.j2 kj50 t1100 t1099 (bt1109.2 != t1071)) else (laws_FnExactFinishWord.j2 kj50 t1100 t1099 true)))) = some r := H
                          have A77 := Aside0.mk A770
                          clear A770
                          replace H := Option.bind_eq_some_iff.mp H
                          obtain ⟨⟨t1109, t1112⟩, A780, H⟩ := H
                          replace H : ((laws_eqIntS.f kj50 t1109 t1068).bind fun t1113 => (if t1113 = true then (laws_FnExactFinishWord.j2 kj50 t1100 t1099 (t1112 != t1071)) else (laws_FnExactFinishWord.j2 kj50 t1100 t1099 true))) = some r := H
                          have A78 := Aside0.mk A780
                          clear A780
                          have HC79 := Aside0.mk H
                          clear H
                          obtain ⟨Ao80, co80, eo80⟩ := Kd.R_slice HO_10.out
                          subst eo80
                          go_upto_region 31 with (first | ((with_reducible refine gate_callee (f := 24) rfl ?_); refine goesL_ (some 83) rfl rfl Try.func24 (by kernel_rfl) rfl #[.slice Ao80 t1080.length co80, .int .i64 1] rfl (by (try simp only [List.map_toArray, List.map_cons, List.map_nil]); first | done | rfl | (simp only [List.length_drop, List.length_take]; rfl)) ?_; (with_reducible refine (laws_markIntS.calls kj50 (fun k_ => some k_ = (.slice Ao80 t1080.length co80 : Value).ownBlock) (.slice Ao80 t1080.length co80) t1080 1 t1099 t1100 w _ ?side1 ?side2 A70.out).mono ?_); (case side1 => repeat (first | (with_reducible first | exact HB.out | apply below_alloc | apply pw_below_drewN | apply below_drew1 | refine below_set ?_ GE1059.out | refine below_set ?_ GE1076.out) | exact HB.out)); (case side2 => exact Kd.R_tight rfl HO_10.out); rintro e w81 ⟨rfl, hy0, hb, hkp⟩; refine ⟨_, rfl, ?_⟩; have n0_ := Aside0.mk (Kd.R_mono (ok' := fun k_ => some k_ ≠ (.slice Ao80 t1080.length co80 : Value).ownBlock ∧ some k_ ≠ (.slice Ao31 t1095.length co31 : Value).ownBlock) (Kd.R_keptB (HO_6.out) hkp (fun k_ hk_ hs_ => (hk_.1) hs_)) (fun k_ hk_ => ⟨hk_.1.1, hk_.1.2⟩)); have n1_ := Aside0.mk (Kd.R_reok rfl hy0 (fun k_ e_ => HO_10.out.1 k_ e_)); have n2_ := Aside0.mk (Kd.R_mono (ok' := fun k_ => some k_ ≠ (v1069 : Value).ownBlock ∧ some k_ ≠ (.slice Ao80 t1080.length co80 : Value).ownBlock) (Kd.R_keptB (HO_1077001.out) hkp (fun k_ hk_ hs_ => (hk_.2) hs_)) (fun k_ hk_ => ⟨hk_.1.1, hk_.1.2⟩)); have n3_ := Aside0.mk (blk_kept (by (with_reducible repeat (first | refine blk_drewN ?_ _ | refine blk_drew ?_ | refine blk_alloc ?_ _)); exact BK1059.out) hkp (fun hs_ => (fun e_ => (Kd.R_ne HO_10.out BK1059.out (by decide)) e_) hs_)); have n4_ := Aside0.mk (blk_kept (by (with_reducible repeat (first | refine blk_drewN ?_ _ | refine blk_drew ?_ | refine blk_alloc ?_ _)); exact BK1076.out) hkp (fun hs_ => (fun e_ => (Kd.R_ne HO_10.out BK1076.out (by decide)) e_) hs_)); have n5_ := Aside0.mk (hb); clear HO_6; clear HO_10; clear HO_1077001; clear BK1059; clear BK1076; clear HB; have HO_6 := n0_; have HO_10 := n1_; have HO_1077001 := n2_; have BK1059 := n3_; have BK1076 := n4_; have HB := n5_; clear n0_ n1_ n2_ n3_ n4_ n5_; (try clear hb); (try clear hkp); (try clear hy0)) | ((with_reducible refine gate_callee (f := 34) rfl ?_); refine goesL_ (some 86) rfl rfl Try.func34 (by kernel_rfl) rfl #[.slice Ao80 t1100.length co80, .int .i64 1] rfl (by (try simp only [List.map_toArray, List.map_cons, List.map_nil]); first | done | (rw [show t1100.length = t1080.length from (Kd.R_reads' HO_10.out).1.symm] <;> rfl) | rfl | (simp only [List.length_drop, List.length_take]; rfl)) ?_; (with_reducible refine (laws_heldIntS.calls kj50 _ _ t1100 1 t1101 _ ?side1 ?side2 A71.out).mono ?_); (case side1 => repeat (first | exact (Kd.R_reads' HO_10.out).2.2 | (with_reducible refine Kd.C_alloc ?_ _) | (with_reducible refine Kd.C_drewN ?_ _) | (with_reducible refine Kd.C_drew ?_))); (case side2 => rw [show t1100.length = t1080.length from (Kd.R_reads' HO_10.out).1.symm]; exact (Kd.R_reads' HO_10.out).2.1); rintro e w' ⟨rfl, ⟨nd, rfl⟩⟩; refine ⟨_, rfl, ?_⟩; have hnb82 := NB1059_1076.out; have hnc82 := NB1076_1059.out; have hcz83_0 : w81.cell? ⟨gb1059, 0, none⟩ = some (.int .i64 a0_0) := (blk_cell BK1059.out 0).trans rfl; have hcz83_1 : w81.cell? ⟨gb1059, 1, none⟩ = some (.slice A0_1 l0_1.length c0_1) := (blk_cell BK1059.out 1).trans rfl; have hfz83_0 := blk_frozen BK1059.out 0; have hfz83_1 := blk_frozen BK1059.out 1) | ((with_reducible refine gate_callee (f := 17) rfl ?_); refine goesL_ (some 94) rfl rfl Try.func17 (by kernel_rfl) rfl #[.agg #[.int .i64 a0_0, .slice A0_1 l0_1.length c0_1]] rfl (by (try simp only [List.map_toArray, List.map_cons, List.map_nil]); first | done | rfl | (simp only [List.length_drop, List.length_take]; rfl)) ?_; (with_reducible refine (laws_toSpace.calls kj50 a0_0 _ _ l0_1 t1102 t1103 _ ?side1 ?side2 A76.out).mono ?_); (case side1 => repeat (first | exact (Kd.C_below HR0_1.out (by repeat (first | (with_reducible first | exact HB.out | apply below_alloc | apply pw_below_drewN | apply below_drew1 | refine below_set ?_ GE1059.out | refine below_set ?_ GE1076.out) | exact HB.out))) | (with_reducible refine Kd.C_alloc ?_ _) | (with_reducible refine Kd.C_drewN ?_ _) | (with_reducible refine Kd.C_drew ?_))); (case side2 => exact HC0_1.out); rintro e w84 ⟨v1104, rfl, ho0, hb⟩; refine ⟨_, rfl, ?_⟩; have n0_ := Aside0.mk (Kd.R_elder' (by (with_reducible repeat (first | apply Kd.R_alloc | apply Kd.R_drewN | apply Kd.R_drew)); exact HO_6.out) (Kd.R_base ho0) hb); have n1_ := Aside0.mk (Kd.R_elder' (by (with_reducible repeat (first | apply Kd.R_alloc | apply Kd.R_drewN | apply Kd.R_drew)); exact HO_10.out) (Kd.R_base ho0) hb); have n2_ := Aside0.mk (Kd.R_elder' (by (with_reducible repeat (first | apply Kd.R_alloc | apply Kd.R_drewN | apply Kd.R_drew)); exact HO_1077001.out) (Kd.R_base ho0) hb); have n3_ := Aside0.mk (Kd.R_lower (Kd.R_new' (Kd.R_new' (Kd.R_new' ho0 (Kd.R_lt (by (with_reducible repeat (first | apply Kd.R_alloc | apply Kd.R_drewN | apply Kd.R_drew)); exact HO_6.out))) (Kd.R_lt (by (with_reducible repeat (first | apply Kd.R_alloc | apply Kd.R_drewN | apply Kd.R_drew)); exact HO_10.out))) (Kd.R_lt (by (with_reducible repeat (first | apply Kd.R_alloc | apply Kd.R_drewN | apply Kd.R_drew)); exact HO_1077001.out))) (below_size (by repeat (first | (with_reducible first | exact HB.out | apply below_alloc | apply pw_below_drewN | apply below_drew1 | refine below_set ?_ GE1059.out | refine below_set ?_ GE1076.out) | exact HB.out)))); have n4_ := Aside0.mk (blk_below (g := gb1059) (o := .cells #[.int .i64 a0_0, .slice A0_1 l0_1.length c0_1] 24 (0, 0)) (by (with_reducible repeat (first | refine blk_drewN ?_ _ | refine blk_drew ?_ | refine blk_alloc ?_ _)); exact BK1059.out) hb); have n5_ := Aside0.mk (blk_below (g := gb1076) (o := .cells #[.int .i64 t1072, .slice Ao31 t1095.length co31] 28 (0, 0)) (by (with_reducible repeat (first | refine blk_drewN ?_ _ | refine blk_drew ?_ | refine blk_alloc ?_ _)); exact BK1076.out) hb); have n6_ := Aside0.mk (below_step (by repeat (first | (with_reducible first | exact HB.out | apply below_alloc | apply pw_below_drewN | apply below_drew1 | refine below_set ?_ GE1059.out | refine below_set ?_ GE1076.out) | exact HB.out)) hb); clear HO_6; clear HO_10; clear HO_1077001; clear BK1059; clear BK1076; clear HB; have HO_6 := n0_; have HO_10 := n1_; have HO_1077001 := n2_; have HO1105 := n3_; have BK1059 := n4_; have BK1076 := n5_; have HB := n6_; clear n0_ n1_ n2_ n3_ n4_ n5_ n6_; (try clear hb); (try clear hb2); (try clear hk); (try clear hi); (try clear ho0)) | ((with_reducible refine gate_callee (f := 21) rfl ?_); refine goesL_ (some 96) rfl rfl Try.func21 (by kernel_rfl) rfl #[.slice A1 l1.length c1] rfl (by (try simp only [List.map_toArray, List.map_cons, List.map_nil]); first | done | rfl | (simp only [List.length_drop, List.length_take]; rfl)) ?_; (with_reducible refine (laws_toIntS.calls kj50 _ _ l1 t1106 _ ?side1 ?side2 A77.out).mono ?_); (case side1 => repeat (first | exact (Kd.C_below HR1.out HB.out) | (with_reducible refine Kd.C_alloc ?_ _) | (with_reducible refine Kd.C_drewN ?_ _) | (with_reducible refine Kd.C_drew ?_))); (case side2 => exact HC1.out); rintro e w85 ⟨v1107, rfl, ho0, hb⟩; refine ⟨_, rfl, ?_⟩; have n0_ := Aside0.mk (Kd.R_elder' (by (with_reducible repeat (first | apply Kd.R_alloc | apply Kd.R_drewN | apply Kd.R_drew)); exact HO_6.out) (Kd.R_base ho0) hb); have n1_ := Aside0.mk (Kd.R_elder' (by (with_reducible repeat (first | apply Kd.R_alloc | apply Kd.R_drewN | apply Kd.R_drew)); exact HO_10.out) (Kd.R_base ho0) hb); have n2_ := Aside0.mk (Kd.R_elder' (by (with_reducible repeat (first | apply Kd.R_alloc | apply Kd.R_drewN | apply Kd.R_drew)); exact HO_1077001.out) (Kd.R_base ho0) hb); have n3_ := Aside0.mk (Kd.R_elder' (by (with_reducible repeat (first | apply Kd.R_alloc | apply Kd.R_drewN | apply Kd.R_drew)); exact HO1105.out) (Kd.R_base ho0) hb); have n4_ := Aside0.mk (Kd.R_lower (Kd.R_new' (Kd.R_new' (Kd.R_new' (Kd.R_new' ho0 (Kd.R_lt (by (with_reducible repeat (first | apply Kd.R_alloc | apply Kd.R_drewN | apply Kd.R_drew)); exact HO_6.out))) (Kd.R_lt (by (with_reducible repeat (first | apply Kd.R_alloc | apply Kd.R_drewN | apply Kd.R_drew)); exact HO_10.out))) (Kd.R_lt (by (with_reducible repeat (first | apply Kd.R_alloc | apply Kd.R_drewN | apply Kd.R_drew)); exact HO_1077001.out))) (Kd.R_lt (by (with_reducible repeat (first | apply Kd.R_alloc | apply Kd.R_drewN | apply Kd.R_drew)); exact HO1105.out))) (below_size (by repeat (first | (with_reducible first | exact HB.out | apply below_alloc | apply pw_below_drewN | apply below_drew1 | refine below_set ?_ GE1059.out | refine below_set ?_ GE1076.out) | exact HB.out)))); have n5_ := Aside0.mk (blk_below (g := gb1059) (o := .cells #[.int .i64 a0_0, .slice A0_1 l0_1.length c0_1] 24 (0, 0)) (by (with_reducible repeat (first | refine blk_drewN ?_ _ | refine blk_drew ?_ | refine blk_alloc ?_ _)); exact BK1059.out) hb); have n6_ := Aside0.mk (blk_below (g := gb1076) (o := .cells #[.int .i64 t1072, .slice Ao31 t1095.length co31] 28 (0, 0)) (by (with_reducible repeat (first | refine blk_drewN ?_ _ | refine blk_drew ?_ | refine blk_alloc ?_ _)); exact BK1076.out) hb); have n7_ := Aside0.mk (below_step (by repeat (first | (with_reducible first | exact HB.out | apply below_alloc | apply pw_below_drewN | apply below_drew1 | refine below_set ?_ GE1059.out | refine below_set ?_ GE1076.out) | exact HB.out)) hb); clear HO_6; clear HO_10; clear HO_1077001; clear HO1105; clear BK1059; clear BK1076; clear HB; have HO_6 := n0_; have HO_10 := n1_; have HO_1077001 := n2_; have HO1105 := n3_; have HO1108 := n4_; have BK1059 := n5_; have BK1076 := n6_; have HB := n7_; clear n0_ n1_ n2_ n3_ n4_ n5_ n6_ n7_; (try clear hb); (try clear hb2); (try clear hk); (try clear hi); (try clear ho0); obtain ⟨Ao86, co86, eo86⟩ := Kd.R_slice HO1105.out; subst eo86; obtain ⟨Ao87, co87, eo87⟩ := Kd.R_slice HO1108.out; subst eo87) | ((with_reducible refine gate_callee (f := 52) rfl ?_); refine goesL_ (some 97) rfl rfl Try.func52 (by kernel_rfl) rfl #[.agg #[.int .i64 t1102, .slice Ao86 t1103.length co86], .slice Ao87 t1106.length co87] rfl (by (try simp only [List.map_toArray, List.map_cons, List.map_nil]); first | done | rfl | (simp only [List.length_drop, List.length_take]; rfl)) ?_; (with_reducible refine (impl_FinishWord.calls kj50 t1102 _ _ t1103 _ _ t1106 t1109 t1112 _ ?side1 ?side2 ?side3 ?side4 A78.out).mono ?_); (case side1 => repeat (first | exact (Kd.R_reads' HO1105.out).2.2 | (with_reducible refine Kd.C_alloc ?_ _) | (with_reducible refine Kd.C_drewN ?_ _) | (with_reducible refine Kd.C_drew ?_))); (case side2 => exact (Kd.R_reads' HO1105.out).2.1); (case side3 => repeat (first | exact (Kd.R_reads' HO1108.out).2.2 | (with_reducible refine Kd.C_alloc ?_ _) | (with_reducible refine Kd.C_drewN ?_ _) | (with_reducible refine Kd.C_drew ?_))); (case side4 => exact (Kd.R_reads' HO1108.out).2.1); rintro e w88 ⟨v1110, rfl, ho0, hb⟩; refine ⟨_, rfl, ?_⟩; have n0_ := Aside0.mk (Kd.R_elder' (by (with_reducible repeat (first | apply Kd.R_alloc | apply Kd.R_drewN | apply Kd.R_drew)); exact HO_6.out) (Kd.R_base ho0) hb); have n1_ := Aside0.mk (Kd.R_elder' (by (with_reducible repeat (first | apply Kd.R_alloc | apply Kd.R_drewN | apply Kd.R_drew)); exact HO_10.out) (Kd.R_base ho0) hb); have n2_ := Aside0.mk (Kd.R_elder' (by (with_reducible repeat (first | apply Kd.R_alloc | apply Kd.R_drewN | apply Kd.R_drew)); exact HO_1077001.out) (Kd.R_base ho0) hb); have n3_ := Aside0.mk (Kd.R_elder' (by (with_reducible repeat (first | apply Kd.R_alloc | apply Kd.R_drewN | apply Kd.R_drew)); exact HO1105.out) (Kd.R_base ho0) hb); have n4_ := Aside0.mk (Kd.R_elder' (by (with_reducible repeat (first | apply Kd.R_alloc | apply Kd.R_drewN | apply Kd.R_drew)); exact HO1108.out) (Kd.R_base ho0) hb); have n5_ := Aside0.mk (Kd.R_lower (Kd.R_new' (Kd.R_new' (Kd.R_new' (Kd.R_new' (Kd.R_new' ho0 (Kd.R_lt (by (with_reducible repeat (first | apply Kd.R_alloc | apply Kd.R_drewN | apply Kd.R_drew)); exact HO_6.out))) (Kd.R_lt (by (with_reducible repeat (first | apply Kd.R_alloc | apply Kd.R_drewN | apply Kd.R_drew)); exact HO_10.out))) (Kd.R_lt (by (with_reducible repeat (first | apply Kd.R_alloc | apply Kd.R_drewN | apply Kd.R_drew)); exact HO_1077001.out))) (Kd.R_lt (by (with_reducible repeat (first | apply Kd.R_alloc | apply Kd.R_drewN | apply Kd.R_drew)); exact HO1105.out))) (Kd.R_lt (by (with_reducible repeat (first | apply Kd.R_alloc | apply Kd.R_drewN | apply Kd.R_drew)); exact HO1108.out))) (below_size (by repeat (first | (with_reducible first | exact HB.out | apply below_alloc | apply pw_below_drewN | apply below_drew1 | refine below_set ?_ GE1059.out | refine below_set ?_ GE1076.out) | exact HB.out)))); have n6_ := Aside0.mk (blk_below (g := gb1059) (o := .cells #[.int .i64 a0_0, .slice A0_1 l0_1.length c0_1] 24 (0, 0)) (by (with_reducible repeat (first | refine blk_drewN ?_ _ | refine blk_drew ?_ | refine blk_alloc ?_ _)); exact BK1059.out) hb); have n7_ := Aside0.mk (blk_below (g := gb1076) (o := .cells #[.int .i64 t1072, .slice Ao31 t1095.length co31] 28 (0, 0)) (by (with_reducible repeat (first | refine blk_drewN ?_ _ | refine blk_drew ?_ | refine blk_alloc ?_ _)); exact BK1076.out) hb); have n8_ := Aside0.mk (below_step (by repeat (first | (with_reducible first | exact HB.out | apply below_alloc | apply pw_below_drewN | apply below_drew1 | refine below_set ?_ GE1059.out | refine below_set ?_ GE1076.out) | exact HB.out)) hb); clear HO_6; clear HO_10; clear HO_1077001; clear HO1105; clear HO1108; clear BK1059; clear BK1076; clear HB; have HO_6 := n0_; have HO_10 := n1_; have HO_1077001 := n2_; have HO1105 := n3_; have HO1108 := n4_; have HO1111 := n5_; have BK1059 := n6_; have BK1076 := n7_; have HB := n8_; clear n0_ n1_ n2_ n3_ n4_ n5_ n6_ n7_ n8_; (try clear hb); (try clear hb2); (try clear hk); (try clear hi); (try clear ho0)))
                          (try simp only [Act.put, List.setIfInBounds_toArray, List.set_cons_zero, List.set_cons_succ])
                          go_cut [108] (fun v108 wc => ∃ (kq : Nat) (x108_78 : Bool), v108 = .bool x108_78 ∧ Aside0 (laws_FnExactFinishWord.j2 kq t1100 t1099 x108_78 = some r) ∧ Aside0 (kq ≤ kj50) ∧ Aside0 (Kd.R (Kd.int .i64) 3 wc w.heap.size (fun k_ => some k_ ≠ ((.slice Ao31 t1095.length co31) : Value).ownBlock) (.slice Ao80 t1080.length co80) t1100) ∧ Aside0 (Kd.R (Kd.int .i64) 3 wc w.heap.size (fun k_ => some k_ ≠ ((.slice Ao80 t1080.length co80) : Value).ownBlock) (.slice Ao31 t1095.length co31) t1095) ∧ Aside0 (wc.heap[gb1059]? = some (.cells #[.int .i64 a0_0, (.slice A0_1 l0_1.length c0_1)] 24 (0, 0))) ∧ Aside0 (wc.heap[gb1076]? = some (.cells #[.int .i64 t1072, (.slice Ao31 t1095.length co31)] 28 (0, 0))) ∧ Aside0 (Below w.heap.size w wc))
                          case first =>
                            have H := HC79.out
                            clear HC79
                            replace H := Option.bind_eq_some_iff.mp H
                            obtain ⟨t1113, A890, H⟩ := H
                            replace H : (if t1113 = true then (laws_FnExactFinishWord.j2 kj50 t1100 t1099 (t1112 != t1071)) else (laws_FnExactFinishWord.j2 kj50 t1100 t1099 true)) = some r := H
                            have A89 := Aside0.mk A890
                            clear A890
                            by_cases c90 : t1113 = true
                            · subst c90
                              have H1 : (laws_FnExactFinishWord.j2 kj50 t1100 t1099 (t1112 != t1071)) = some r := by rw [if_pos rfl] at H; exact H
                              clear H
                              have H := H1
                              clear H1
                              have H' := Aside0.mk H
                              clear H
                              obtain ⟨Ao91, co91, eo91⟩ := Kd.R_slice HO1111.out
                              subst eo91
                              obtain ⟨Ao92, co92, eo92⟩ := Kd.R_slice HO_6.out
                              subst eo92
                              go_wp2_with (first | ((with_reducible refine gate_callee (f := 23) rfl ?_); refine goesL_ (some 102) rfl rfl Try.func23 (by kernel_rfl) rfl #[.slice Ao91 t1109.length co91, .slice Ao92 t1068.length co92] rfl (by (try simp only [List.map_toArray, List.map_cons, List.map_nil]); first | done | rfl | (simp only [List.length_drop, List.length_take]; rfl)) ?_; (with_reducible refine (laws_eqIntS.calls kj50 _ _ t1109 _ _ t1068 true _ ?side1 ?side2 ?side3 ?side4 A89.out).mono ?_); (case side1 => repeat (first | exact (Kd.R_reads' HO1111.out).2.2 | (with_reducible refine Kd.C_alloc ?_ _) | (with_reducible refine Kd.C_drewN ?_ _) | (with_reducible refine Kd.C_drew ?_))); (case side2 => exact (Kd.R_reads' HO1111.out).2.1); (case side3 => repeat (first | exact (Kd.R_reads' HO_6.out).2.2 | (with_reducible refine Kd.C_alloc ?_ _) | (with_reducible refine Kd.C_drewN ?_ _) | (with_reducible refine Kd.C_drew ?_))); (case side4 => exact (Kd.R_reads' HO_6.out).2.1); rintro e w' ⟨rfl, ⟨nd, rfl⟩⟩; refine ⟨_, rfl, ?_⟩))
                              go_meet
                              case rel => exact ⟨_, ((t1112 != t1071)), (by first | rfl | (simp; done) | (simp [*]; done)), H', ⟨by have := HJ15.out; have := HJ50.out; first | omega | exact Nat.le_refl _⟩, ⟨by (try simp only [hl1077001_50]); (with_reducible repeat (first | apply Kd.R_alloc | apply Kd.R_drewN | apply Kd.R_drew)); exact Kd.R_mono HO_10.out (fun _ hk => hk.1.1.1.2)⟩, ⟨by (try simp only [hl1077001_50]); (with_reducible repeat (first | apply Kd.R_alloc | apply Kd.R_drewN | apply Kd.R_drew)); exact Kd.R_mono HO_1077001.out (fun _ hk => hk.1.1.1.2)⟩, ⟨by (try simp only [hl1077001_50]); (with_reducible repeat (first | refine blk_drewN ?_ _ | refine blk_drew ?_ | refine blk_alloc ?_ _)); exact BK1059.out⟩, ⟨by (try simp only [hl1077001_50]); (with_reducible repeat (first | refine blk_drewN ?_ _ | refine blk_drew ?_ | refine blk_alloc ?_ _)); exact BK1076.out⟩, ⟨by repeat (first | (with_reducible first | exact HB.out | apply below_alloc | apply pw_below_drewN | apply below_drew1 | refine below_set ?_ GE1059.out | refine below_set ?_ GE1076.out) | exact HB.out)⟩⟩
                            · replace c90 := Bool.eq_false_iff.mpr c90
                              subst c90
                              have H1 : (laws_FnExactFinishWord.j2 kj50 t1100 t1099 true) = some r := by rw [if_neg (show ¬ (false = true) by decide)] at H; exact H
                              clear H
                              have H := H1
                              clear H1
                              have H' := Aside0.mk H
                              clear H
                              obtain ⟨Ao93, co93, eo93⟩ := Kd.R_slice HO1111.out
                              subst eo93
                              obtain ⟨Ao94, co94, eo94⟩ := Kd.R_slice HO_6.out
                              subst eo94
                              go_wp2_with (first | ((with_reducible refine gate_callee (f := 23) rfl ?_); refine goesL_ (some 102) rfl rfl Try.func23 (by kernel_rfl) rfl #[.slice Ao93 t1109.length co93, .slice Ao94 t1068.length co94] rfl (by (try simp only [List.map_toArray, List.map_cons, List.map_nil]); first | done | rfl | (simp only [List.length_drop, List.length_take]; rfl)) ?_; (with_reducible refine (laws_eqIntS.calls kj50 _ _ t1109 _ _ t1068 false _ ?side1 ?side2 ?side3 ?side4 A89.out).mono ?_); (case side1 => repeat (first | exact (Kd.R_reads' HO1111.out).2.2 | (with_reducible refine Kd.C_alloc ?_ _) | (with_reducible refine Kd.C_drewN ?_ _) | (with_reducible refine Kd.C_drew ?_))); (case side2 => exact (Kd.R_reads' HO1111.out).2.1); (case side3 => repeat (first | exact (Kd.R_reads' HO_6.out).2.2 | (with_reducible refine Kd.C_alloc ?_ _) | (with_reducible refine Kd.C_drewN ?_ _) | (with_reducible refine Kd.C_drew ?_))); (case side4 => exact (Kd.R_reads' HO_6.out).2.1); rintro e w' ⟨rfl, ⟨nd, rfl⟩⟩; refine ⟨_, rfl, ?_⟩))
                              go_meet
                              case rel => exact ⟨_, (true), (by first | rfl | (simp; done) | (simp [*]; done)), H', ⟨by have := HJ15.out; have := HJ50.out; first | omega | exact Nat.le_refl _⟩, ⟨by (try simp only [hl1077001_50]); (with_reducible repeat (first | apply Kd.R_alloc | apply Kd.R_drewN | apply Kd.R_drew)); exact Kd.R_mono HO_10.out (fun _ hk => hk.1.1.1.2)⟩, ⟨by (try simp only [hl1077001_50]); (with_reducible repeat (first | apply Kd.R_alloc | apply Kd.R_drewN | apply Kd.R_drew)); exact Kd.R_mono HO_1077001.out (fun _ hk => hk.1.1.1.2)⟩, ⟨by (try simp only [hl1077001_50]); (with_reducible repeat (first | refine blk_drewN ?_ _ | refine blk_drew ?_ | refine blk_alloc ?_ _)); exact BK1059.out⟩, ⟨by (try simp only [hl1077001_50]); (with_reducible repeat (first | refine blk_drewN ?_ _ | refine blk_drew ?_ | refine blk_alloc ?_ _)); exact BK1076.out⟩, ⟨by repeat (first | (with_reducible first | exact HB.out | apply below_alloc | apply pw_below_drewN | apply below_drew1 | refine below_set ?_ GE1059.out | refine below_set ?_ GE1076.out) | exact HB.out)⟩⟩
                          case rest =>
                            clear HC79
                            try clear c1
                            try clear c2
                            try clear p2
                            try clear c3
                            try clear c3b0
                            try clear c3b1
                            try clear c4
                            try clear c5
                            try clear c6
                            try clear c6b0
                            try clear c7
                            try clear c8
                            try clear c9
                            try clear c12
                            try clear c15
                            try clear c17
                            try clear c19
                            try clear c21
                            try clear c23
                            try clear c24
                            try clear c25
                            try clear c29
                            try clear c34
                            try clear c37
                            try clear c42
                            try clear c45
                            try clear c48
                            try clear c51
                            try clear c52
                            try clear c58
                            try clear c62
                            try clear c62b0
                            try clear c64
                            try clear c69
                            try clear c72
                            try clear c72b0
                            try clear c75
                            try clear c75b0
                            try clear c75b1
                            try clear c82
                            try clear c90
                            try clear hcz18_0
                            try clear hcz18_1
                            try clear hcz20_0
                            try clear hcz20_1
                            try clear hcz26_0
                            try clear hcz26_1
                            try clear hcz30_0
                            try clear hcz30_1
                            try clear hcz33_0
                            try clear hcz33_1
                            try clear hcz59_0
                            try clear hcz59_1
                            try clear hcz83_0
                            try clear hcz83_1
                            try clear hcz8_0
                            try clear hcz8_1
                            try clear hfz18_0
                            try clear hfz18_1
                            try clear hfz20_0
                            try clear hfz20_1
                            try clear hfz26_0
                            try clear hfz26_1
                            try clear hfz30_0
                            try clear hfz30_1
                            try clear hfz33_0
                            try clear hfz33_1
                            try clear hfz59_0
                            try clear hfz59_1
                            try clear hfz83_0
                            try clear hfz83_1
                            try clear hfz8_0
                            try clear hfz8_1
                            try clear p2
                            obtain ⟨kq, x108_78, rfl, HA, HJ78, HO_10, HO_1077001, BK1059, BK1076, HB⟩ := hcut
                            have hl10_78 := (Kd.R_reads' HO_10.out).1
                            rw [hl10_78] at HO_10
                            (try simp only [hl10_78])
                            (try simp only [hl10_78] at BK1059)
                            (try simp only [hl10_78] at BK1076)
                            (try simp only [hl10_78] at HO_1077001)
                            cases kq with
                            | zero => exact absurd HA.out (by simp [laws_FnExactFinishWord.j2])
                            | succ kj78 =>
                              have H := HA.out
                              clear HA
                              simp only [laws_FnExactFinishWord.j2] at H
                              by_cases c95 : x108_78 = true
                              · subst c95
                                have H1 : (some false) = some r := by rw [if_pos rfl] at H; exact H
                                clear H
                                have H := H1
                                clear H1
                                obtain rfl := Option.some.inj H
                                go_wp2
                                go_ret
                                exact ⟨by first | rfl | (simp [errW_none, errW_some] <;> rfl) | (simp [*, errW_none, errW_some] <;> rfl), by repeat (first | (with_reducible first | exact HB.out | apply below_alloc | apply pw_below_drewN | apply below_drew1 | refine below_set ?_ GE1059.out | refine below_set ?_ GE1076.out) | exact HB.out)⟩
                              · replace c95 := Bool.eq_false_iff.mpr c95
                                subst c95
                                have H1 : ((laws_heldIntS.f kj78 t1100 1).bind fun t1114 => (if t1114 < 0 then (some false) else (if t1114 = t1099 then (some true) else (some false)))) = some r := by rw [if_neg (show ¬ (false = true) by decide)] at H; exact H
                                clear H
                                have H := H1
                                clear H1
                                replace H := Option.bind_eq_some_iff.mp H
                                obtain ⟨t1114, A960, H⟩ := H
                                replace H : (if t1114 < 0 then (some false) else (if t1114 = t1099 then (some true) else (some false))) = some r := H
                                have A96 := Aside0.mk A960
                                clear A960
                                by_cases c97 : t1114 < 0
                                · rw [if_pos c97] at H
                                  have c97b0 : decide (t1114 < 0) = true := decide_eq_true c97
                                  clear c97
                                  obtain rfl := Option.some.inj H
                                  go_wp2_with (first | ((with_reducible refine gate_callee (f := 34) rfl ?_); refine goesL_ (some 111) rfl rfl Try.func34 (by kernel_rfl) rfl #[.slice Ao80 t1100.length co80, .int .i64 1] rfl (by (try simp only [List.map_toArray, List.map_cons, List.map_nil]); first | done | rfl | (simp only [List.length_drop, List.length_take]; rfl)) ?_; (with_reducible refine (laws_heldIntS.calls kj78 _ _ t1100 1 t1114 _ ?side1 ?side2 A96.out).mono ?_); (case side1 => repeat (first | exact (Kd.R_reads' HO_10.out).2.2 | (with_reducible refine Kd.C_alloc ?_ _) | (with_reducible refine Kd.C_drewN ?_ _) | (with_reducible refine Kd.C_drew ?_))); (case side2 => exact (Kd.R_reads' HO_10.out).2.1); rintro e w' ⟨rfl, ⟨nd, rfl⟩⟩; refine ⟨_, rfl, ?_⟩))
                                  go_ret
                                  exact ⟨by first | rfl | (simp [errW_none, errW_some] <;> rfl) | (simp [*, errW_none, errW_some] <;> rfl), by repeat (first | (with_reducible first | exact HB.out | apply below_alloc | apply pw_below_drewN | apply below_drew1 | refine below_set ?_ GE1059.out | refine below_set ?_ GE1076.out) | exact HB.out)⟩
                                · rw [if_neg c97] at H
                                  have c97b0 : decide (t1114 < 0) = false := decide_eq_false c97
                                  clear c97
                                  by_cases c98 : t1114 = t1099
                                  · rw [if_pos c98] at H
                                    have c98b0 : (t1114 == t1099) = true := beq_iff_eq.mpr c98
                                    have c98b1 : (t1114 != t1099) = false := bne_eq_false_iff_eq.mpr c98
                                    clear c98
                                    obtain rfl := Option.some.inj H
                                    go_wp2_with (first | ((with_reducible refine gate_callee (f := 34) rfl ?_); refine goesL_ (some 111) rfl rfl Try.func34 (by kernel_rfl) rfl #[.slice Ao80 t1100.length co80, .int .i64 1] rfl (by (try simp only [List.map_toArray, List.map_cons, List.map_nil]); first | done | rfl | (simp only [List.length_drop, List.length_take]; rfl)) ?_; (with_reducible refine (laws_heldIntS.calls kj78 _ _ t1100 1 t1114 _ ?side1 ?side2 A96.out).mono ?_); (case side1 => repeat (first | exact (Kd.R_reads' HO_10.out).2.2 | (with_reducible refine Kd.C_alloc ?_ _) | (with_reducible refine Kd.C_drewN ?_ _) | (with_reducible refine Kd.C_drew ?_))); (case side2 => exact (Kd.R_reads' HO_10.out).2.1); rintro e w' ⟨rfl, ⟨nd, rfl⟩⟩; refine ⟨_, rfl, ?_⟩))
                                    go_ret
                                    exact ⟨by first | rfl | (simp [errW_none, errW_some] <;> rfl) | (simp [*, errW_none, errW_some] <;> rfl), by repeat (first | (with_reducible first | exact HB.out | apply below_alloc | apply pw_below_drewN | apply below_drew1 | refine below_set ?_ GE1059.out | refine below_set ?_ GE1076.out) | exact HB.out)⟩
                                  · rw [if_neg c98] at H
                                    have c98b0 : (t1114 == t1099) = false := beq_eq_false_iff_ne.mpr c98
                                    have c98b1 : (t1114 != t1099) = true := bne_iff_ne.mpr c98
                                    obtain rfl := Option.some.inj H
                                    go_wp2_with (first | ((with_reducible refine gate_callee (f := 34) rfl ?_); refine goesL_ (some 111) rfl rfl Try.func34 (by kernel_rfl) rfl #[.slice Ao80 t1100.length co80, .int .i64 1] rfl (by (try simp only [List.map_toArray, List.map_cons, List.map_nil]); first | done | rfl | (simp only [List.length_drop, List.length_take]; rfl)) ?_; (with_reducible refine (laws_heldIntS.calls kj78 _ _ t1100 1 t1114 _ ?side1 ?side2 A96.out).mono ?_); (case side1 => repeat (first | exact (Kd.R_reads' HO_10.out).2.2 | (with_reducible refine Kd.C_alloc ?_ _) | (with_reducible refine Kd.C_drewN ?_ _) | (with_reducible refine Kd.C_drew ?_))); (case side2 => exact (Kd.R_reads' HO_10.out).2.1); rintro e w' ⟨rfl, ⟨nd, rfl⟩⟩; refine ⟨_, rfl, ?_⟩))
                                    go_ret
                                    exact ⟨by first | rfl | (simp [errW_none, errW_some] <;> rfl) | (simp [*, errW_none, errW_some] <;> rfl), by repeat (first | (with_reducible first | exact HB.out | apply below_alloc | apply pw_below_drewN | apply below_drew1 | refine below_set ?_ GE1059.out | refine below_set ?_ GE1076.out) | exact HB.out)⟩
                        · rw [if_neg c75] at H
                          have c75b0 : (t1101 == t1099) = false := beq_eq_false_iff_ne.mpr c75
                          have c75b1 : (t1101 != t1099) = true := bne_iff_ne.mpr c75
                          obtain rfl := Option.some.inj H
                          obtain ⟨Ao99, co99, eo99⟩ := Kd.R_slice HO_10.out
                          subst eo99
                          go_wp2_with (first | ((with_reducible refine gate_callee (f := 24) rfl ?_); refine goesL_ (some 83) rfl rfl Try.func24 (by kernel_rfl) rfl #[.slice Ao99 t1080.length co99, .int .i64 1] rfl (by (try simp only [List.map_toArray, List.map_cons, List.map_nil]); first | done | rfl | (simp only [List.length_drop, List.length_take]; rfl)) ?_; (with_reducible refine (laws_markIntS.calls kj50 (fun k_ => some k_ = (.slice Ao99 t1080.length co99 : Value).ownBlock) (.slice Ao99 t1080.length co99) t1080 1 t1099 t1100 w _ ?side1 ?side2 A70.out).mono ?_); (case side1 => repeat (first | (with_reducible first | exact HB.out | apply below_alloc | apply pw_below_drewN | apply below_drew1 | refine below_set ?_ GE1059.out | refine below_set ?_ GE1076.out) | exact HB.out)); (case side2 => exact Kd.R_tight rfl HO_10.out); rintro e w100 ⟨rfl, hy0, hb, hkp⟩; refine ⟨_, rfl, ?_⟩; have n0_ := Aside0.mk (Kd.R_mono (ok' := fun k_ => some k_ ≠ (.slice Ao99 t1080.length co99 : Value).ownBlock ∧ some k_ ≠ (.slice Ao31 t1095.length co31 : Value).ownBlock) (Kd.R_keptB (HO_6.out) hkp (fun k_ hk_ hs_ => (hk_.1) hs_)) (fun k_ hk_ => ⟨hk_.1.1, hk_.1.2⟩)); have n1_ := Aside0.mk (Kd.R_reok rfl hy0 (fun k_ e_ => HO_10.out.1 k_ e_)); have n2_ := Aside0.mk (Kd.R_mono (ok' := fun k_ => some k_ ≠ (v1069 : Value).ownBlock ∧ some k_ ≠ (.slice Ao99 t1080.length co99 : Value).ownBlock) (Kd.R_keptB (HO_1077001.out) hkp (fun k_ hk_ hs_ => (hk_.2) hs_)) (fun k_ hk_ => ⟨hk_.1.1, hk_.1.2⟩)); have n3_ := Aside0.mk (blk_kept (by (with_reducible repeat (first | refine blk_drewN ?_ _ | refine blk_drew ?_ | refine blk_alloc ?_ _)); exact BK1059.out) hkp (fun hs_ => (fun e_ => (Kd.R_ne HO_10.out BK1059.out (by decide)) e_) hs_)); have n4_ := Aside0.mk (blk_kept (by (with_reducible repeat (first | refine blk_drewN ?_ _ | refine blk_drew ?_ | refine blk_alloc ?_ _)); exact BK1076.out) hkp (fun hs_ => (fun e_ => (Kd.R_ne HO_10.out BK1076.out (by decide)) e_) hs_)); have n5_ := Aside0.mk (hb); clear HO_6; clear HO_10; clear HO_1077001; clear BK1059; clear BK1076; clear HB; have HO_6 := n0_; have HO_10 := n1_; have HO_1077001 := n2_; have BK1059 := n3_; have BK1076 := n4_; have HB := n5_; clear n0_ n1_ n2_ n3_ n4_ n5_; (try clear hb); (try clear hkp); (try clear hy0)) | ((with_reducible refine gate_callee (f := 34) rfl ?_); refine goesL_ (some 86) rfl rfl Try.func34 (by kernel_rfl) rfl #[.slice Ao99 t1100.length co99, .int .i64 1] rfl (by (try simp only [List.map_toArray, List.map_cons, List.map_nil]); first | done | (rw [show t1100.length = t1080.length from (Kd.R_reads' HO_10.out).1.symm] <;> rfl) | rfl | (simp only [List.length_drop, List.length_take]; rfl)) ?_; (with_reducible refine (laws_heldIntS.calls kj50 _ _ t1100 1 t1101 _ ?side1 ?side2 A71.out).mono ?_); (case side1 => repeat (first | exact (Kd.R_reads' HO_10.out).2.2 | (with_reducible refine Kd.C_alloc ?_ _) | (with_reducible refine Kd.C_drewN ?_ _) | (with_reducible refine Kd.C_drew ?_))); (case side2 => rw [show t1100.length = t1080.length from (Kd.R_reads' HO_10.out).1.symm]; exact (Kd.R_reads' HO_10.out).2.1); rintro e w' ⟨rfl, ⟨nd, rfl⟩⟩; refine ⟨_, rfl, ?_⟩))
                          go_ret
                          exact ⟨by first | rfl | (simp [errW_none, errW_some] <;> rfl) | (simp [*, errW_none, errW_some] <;> rfl), by repeat (first | (with_reducible first | exact HB.out | apply below_alloc | apply pw_below_drewN | apply below_drew1 | refine below_set ?_ GE1059.out | refine below_set ?_ GE1076.out) | exact HB.out)⟩
              · replace c48 := Bool.eq_false_iff.mpr c48
                subst c48
                have H1 : (some false) = some r := by rw [if_neg (show ¬ (false = true) by decide)] at H; exact H
                clear H
                have H := H1
                clear H1
                obtain rfl := Option.some.inj H
                try go_wp2
                have n0_ := Aside0.mk (Kd.R_drew HO_6.out)
                have n1_ := Aside0.mk (Kd.R_drew HO_9.out)
                have n2_ := Aside0.mk (Kd.R_drew HO_10.out)
                have n3_ := Aside0.mk (Kd.R_drew HO_1077001.out)
                have n4_ := Aside0.mk (blk_drew BK1059.out)
                have n5_ := Aside0.mk (blk_drew BK1076.out)
                have n6_ := Aside0.mk (below_drew1 HB.out)
                clear HO_6
                clear HO_9
                clear HO_10
                clear HO_1077001
                clear BK1059
                clear BK1076
                clear HB
                have HO_6 := n0_
                have HO_9 := n1_
                have HO_10 := n2_
                have HO_1077001 := n3_
                have BK1059 := n4_
                have BK1076 := n5_
                have HB := n6_
                clear n0_ n1_ n2_ n3_ n4_ n5_ n6_
                refine start_ (n := 5) (S := fun w' => w'.cell? ⟨gb1076, 0, none⟩ = some (.int .i64 t1072) ∧ w'.cell? ⟨gb1076, 1, none⟩ = some (.slice Ao31 t1073.length co31) ∧ w'.cell? ⟨gb1059, 0, none⟩ = some (.int .i64 a0_0) ∧ w'.cell? ⟨gb1059, 1, none⟩ = some (.slice A0_1 l0_1.length c0_1)) (ds := []) #[false, false, false, false, false] (by kernel_rfl) rfl rfl ⟨(blk_cell BK1076.out 0).trans rfl, (blk_cell BK1076.out 1).trans rfl, (blk_cell BK1059.out 0).trans rfl, (blk_cell BK1059.out 1).trans rfl⟩ (fun hHeld => ?_)
                generalize wc.drew = w101 at HO_6 HO_9 HO_10 HO_1077001 BK1059 BK1076 HB hHeld ⊢
                refine take_ (i := 0) (N := some 52) (v := ?_) (a' := ?_) #[true, false, false, false, false] rfl rfl (by kernel_rfl) (fun _ _ _ h => h) (Or.inl ⟨by rfl, ?_⟩) hHeld ?_ ?_
                rotate_left
                · rintro w' ⟨s0, s1, s2, s3⟩
                  go_simp
                  with_reducible rfl
                rotate_left
                · simp only [Act.put, List.setIfInBounds_toArray, List.set_cons_zero, List.set_cons_succ, i64_w, i32_w]
                  rfl
                refine take_ (i := 1) (N := some 53) (v := ?_) (a' := ?_) #[true, true, false, false, false] rfl rfl (by kernel_rfl) (fun _ _ _ h => h) (Or.inl ⟨by rfl, ?_⟩) hHeld ?_ ?_
                rotate_left
                · rintro w' ⟨s0, s1, s2, s3⟩
                  go_simp
                  with_reducible rfl
                rotate_left
                · simp only [Act.put, List.setIfInBounds_toArray, List.set_cons_zero, List.set_cons_succ, i64_w, i32_w]
                  rfl
                refine one_ (i := 2) (N := some 54) #[true, true, true, false, false] rfl rfl (by kernel_rfl) (by decide) (fun K hK => ?_)
                refine goes_ Try.func17 (by kernel_rfl) rfl #[.agg #[.int .i64 a0_0, .slice A0_1 l0_1.length c0_1]] (by rfl) rfl rfl (by (try simp only [List.map_toArray, List.map_cons, List.map_nil]); first | done | rfl | (simp only [List.length_drop, List.length_take]; rfl)) ?_
                with_reducible refine (laws_toSpace.calls kj15 a0_0 _ _ l0_1 t1085 t1086 _ ?side1 ?side2 A43.out).mono ?_
                (case side1 => repeat (first | exact (Kd.C_below HR0_1.out HB.out) | (with_reducible refine Kd.C_alloc ?_ _) | (with_reducible refine Kd.C_drewN ?_ _) | (with_reducible refine Kd.C_drew ?_)))
                (case side2 => exact HC0_1.out)
                rintro e w102 ⟨v1087, rfl, ho0, hb⟩
                refine ⟨_, rfl, ?_⟩
                have n0_ := Aside0.mk (Kd.R_elder' (by (with_reducible repeat (first | apply Kd.R_alloc | apply Kd.R_drewN | apply Kd.R_drew)); exact HO_6.out) (Kd.R_base ho0) hb)
                have n1_ := Aside0.mk (Kd.R_elder' (by (with_reducible repeat (first | apply Kd.R_alloc | apply Kd.R_drewN | apply Kd.R_drew)); exact HO_9.out) (Kd.R_base ho0) hb)
                have n2_ := Aside0.mk (Kd.R_elder' (by (with_reducible repeat (first | apply Kd.R_alloc | apply Kd.R_drewN | apply Kd.R_drew)); exact HO_10.out) (Kd.R_base ho0) hb)
                have n3_ := Aside0.mk (Kd.R_elder' (by (with_reducible repeat (first | apply Kd.R_alloc | apply Kd.R_drewN | apply Kd.R_drew)); exact HO_1077001.out) (Kd.R_base ho0) hb)
                have n4_ := Aside0.mk (Kd.R_lower (Kd.R_new' (Kd.R_new' (Kd.R_new' (Kd.R_new' ho0 (Kd.R_lt (by (with_reducible repeat (first | apply Kd.R_alloc | apply Kd.R_drewN | apply Kd.R_drew)); exact HO_6.out))) (Kd.R_lt (by (with_reducible repeat (first | apply Kd.R_alloc | apply Kd.R_drewN | apply Kd.R_drew)); exact HO_9.out))) (Kd.R_lt (by (with_reducible repeat (first | apply Kd.R_alloc | apply Kd.R_drewN | apply Kd.R_drew)); exact HO_10.out))) (Kd.R_lt (by (with_reducible repeat (first | apply Kd.R_alloc | apply Kd.R_drewN | apply Kd.R_drew)); exact HO_1077001.out))) (below_size (by repeat (first | (with_reducible first | exact HB.out | apply below_alloc | apply pw_below_drewN | apply below_drew1 | refine below_set ?_ GE1059.out | refine below_set ?_ GE1076.out) | exact HB.out))))
                have n5_ := Aside0.mk (blk_below (g := gb1059) (o := .cells #[.int .i64 a0_0, .slice A0_1 l0_1.length c0_1] 24 (0, 0)) (by (with_reducible repeat (first | refine blk_drewN ?_ _ | refine blk_drew ?_ | refine blk_alloc ?_ _)); exact BK1059.out) hb)
                have n6_ := Aside0.mk (blk_below (g := gb1076) (o := .cells #[.int .i64 t1072, .slice Ao31 t1073.length co31] 28 (0, 0)) (by (with_reducible repeat (first | refine blk_drewN ?_ _ | refine blk_drew ?_ | refine blk_alloc ?_ _)); exact BK1076.out) hb)
                have n7_ := Aside0.mk (below_step (by repeat (first | (with_reducible first | exact HB.out | apply below_alloc | apply pw_below_drewN | apply below_drew1 | refine below_set ?_ GE1059.out | refine below_set ?_ GE1076.out) | exact HB.out)) hb)
                clear HO_6
                clear HO_9
                clear HO_10
                clear HO_1077001
                clear BK1059
                clear BK1076
                clear HB
                have HO_6 := n0_
                have HO_9 := n1_
                have HO_10 := n2_
                have HO_1077001 := n3_
                have HO1088 := n4_
                have BK1059 := n5_
                have BK1076 := n6_
                have HB := n7_
                clear n0_ n1_ n2_ n3_ n4_ n5_ n6_ n7_
                (try clear hb)
                (try clear hb2)
                (try clear hk)
                (try clear hi)
                (try clear ho0)
                obtain ⟨Ao103, co103, eo103⟩ := Kd.R_slice HO1088.out
                (first | subst eo103 | (injection eo103 with f1_ f2_ f3_; have f4_ := f1_.symm; have f5_ := f3_.symm; clear f1_ f2_ f3_; subst f4_; subst f5_))
                refine hK.out _ _ ⟨(blk_cell BK1076.out 0).trans rfl, (blk_cell BK1076.out 1).trans rfl, (blk_cell BK1059.out 0).trans rfl, (blk_cell BK1059.out 1).trans rfl⟩ (fun hHeld => ?_)
                clear hK K
                refine norm_ (a' := ?_) ?_ ?_
                rotate_left
                · show Act.put _ (some 54) _ = _
                  simp only [Act.put, List.setIfInBounds_toArray, List.set_cons_zero, List.set_cons_succ, i64_w, i32_w]
                  rfl
                refine one_ (i := 3) (N := some 55) #[true, true, true, true, false] rfl rfl (by kernel_rfl) (by decide) (fun K hK => ?_)
                refine goes_ Try.func19 (by kernel_rfl) rfl #[.agg #[.int .i64 t1072, .slice Ao31 t1073.length co31], .agg #[.int .i64 t1085, .slice Ao103 t1086.length co103]] (by rfl) rfl rfl (by (try simp only [List.map_toArray, List.map_cons, List.map_nil]); first | done | rfl | (simp only [List.length_drop, List.length_take]; rfl)) ?_
                with_reducible refine (laws_eqSpace.calls kj15 t1072 _ _ t1073 t1085 _ _ t1086 true _ ?side1 ?side2 ?side3 ?side4 A44.out).mono ?_
                (case side1 => repeat (first | exact (Kd.R_reads' HO_1077001.out).2.2 | (with_reducible refine Kd.C_alloc ?_ _) | (with_reducible refine Kd.C_drewN ?_ _) | (with_reducible refine Kd.C_drew ?_)))
                (case side2 => exact (Kd.R_reads' HO_1077001.out).2.1)
                (case side3 => repeat (first | exact (Kd.R_reads' HO1088.out).2.2 | (with_reducible refine Kd.C_alloc ?_ _) | (with_reducible refine Kd.C_drewN ?_ _) | (with_reducible refine Kd.C_drew ?_)))
                (case side4 => exact (Kd.R_reads' HO1088.out).2.1)
                rintro e w104 ⟨rfl, hb⟩
                refine ⟨_, rfl, ?_⟩
                have n0_ := Aside0.mk (Kd.R_below (by (with_reducible repeat (first | apply Kd.R_alloc | apply Kd.R_drewN | apply Kd.R_drew)); exact HO_6.out) hb)
                have n1_ := Aside0.mk (Kd.R_below (by (with_reducible repeat (first | apply Kd.R_alloc | apply Kd.R_drewN | apply Kd.R_drew)); exact HO_9.out) hb)
                have n2_ := Aside0.mk (Kd.R_below (by (with_reducible repeat (first | apply Kd.R_alloc | apply Kd.R_drewN | apply Kd.R_drew)); exact HO_10.out) hb)
                have n3_ := Aside0.mk (Kd.R_below (by (with_reducible repeat (first | apply Kd.R_alloc | apply Kd.R_drewN | apply Kd.R_drew)); exact HO_1077001.out) hb)
                have n4_ := Aside0.mk (Kd.R_below (by (with_reducible repeat (first | apply Kd.R_alloc | apply Kd.R_drewN | apply Kd.R_drew)); exact HO1088.out) hb)
                have n5_ := Aside0.mk (blk_below (g := gb1059) (o := .cells #[.int .i64 a0_0, .slice A0_1 l0_1.length c0_1] 24 (0, 0)) (by (with_reducible repeat (first | refine blk_drewN ?_ _ | refine blk_drew ?_ | refine blk_alloc ?_ _)); exact BK1059.out) hb)
                have n6_ := Aside0.mk (blk_below (g := gb1076) (o := .cells #[.int .i64 t1072, .slice Ao31 t1073.length co31] 28 (0, 0)) (by (with_reducible repeat (first | refine blk_drewN ?_ _ | refine blk_drew ?_ | refine blk_alloc ?_ _)); exact BK1076.out) hb)
                have n7_ := Aside0.mk (below_step (by repeat (first | (with_reducible first | exact HB.out | apply below_alloc | apply pw_below_drewN | apply below_drew1 | refine below_set ?_ GE1059.out | refine below_set ?_ GE1076.out) | exact HB.out)) hb)
                clear HO_6
                clear HO_9
                clear HO_10
                clear HO_1077001
                clear HO1088
                clear BK1059
                clear BK1076
                clear HB
                have HO_6 := n0_
                have HO_9 := n1_
                have HO_10 := n2_
                have HO_1077001 := n3_
                have HO1088 := n4_
                have BK1059 := n5_
                have BK1076 := n6_
                have HB := n7_
                clear n0_ n1_ n2_ n3_ n4_ n5_ n6_ n7_
                (try clear hb)
                (try clear hb2)
                (try clear hk)
                (try clear hi)
                refine hK.out _ _ ⟨(blk_cell BK1076.out 0).trans rfl, (blk_cell BK1076.out 1).trans rfl, (blk_cell BK1059.out 0).trans rfl, (blk_cell BK1059.out 1).trans rfl⟩ (fun hHeld => ?_)
                clear hK K
                refine norm_ (a' := ?_) ?_ ?_
                rotate_left
                · show Act.put _ (some 55) _ = _
                  simp only [Act.put, List.setIfInBounds_toArray, List.set_cons_zero, List.set_cons_succ, i64_w, i32_w]
                  rfl
                refine pure_ (i := 4) (N := some 56) (v := ?_) (a' := ?_) #[true, true, true, true, true] rfl rfl (by kernel_rfl) (fun _ _ _ h => h) (Or.inl ⟨by rfl, ?_⟩) ?_ ?_
                rotate_left
                · intro w'
                  go_simp
                  with_reducible rfl
                rotate_left
                · simp only [Act.put, List.setIfInBounds_toArray, List.set_cons_zero, List.set_cons_succ, i64_w, i32_w]
                  rfl
                refine done_ (by kernel_rfl) ?_
                try go_wp2_with (first | ((with_reducible refine gate_callee (f := 21) rfl ?_); refine goesL_ (some 59) rfl rfl Try.func21 (by kernel_rfl) rfl #[.slice A1 l1.length c1] rfl (by (try simp only [List.map_toArray, List.map_cons, List.map_nil]); first | done | rfl | (simp only [List.length_drop, List.length_take]; rfl)) ?_; (with_reducible refine (laws_toIntS.calls kj15 _ _ l1 t1090 _ ?side1 ?side2 A46.out).mono ?_); (case side1 => repeat (first | exact (Kd.C_below HR1.out HB.out) | (with_reducible refine Kd.C_alloc ?_ _) | (with_reducible refine Kd.C_drewN ?_ _) | (with_reducible refine Kd.C_drew ?_))); (case side2 => exact HC1.out); rintro e w105 ⟨v1091, rfl, ho0, hb⟩; refine ⟨_, rfl, ?_⟩; have n0_ := Aside0.mk (Kd.R_elder' (by (with_reducible repeat (first | apply Kd.R_alloc | apply Kd.R_drewN | apply Kd.R_drew)); exact HO_6.out) (Kd.R_base ho0) hb); have n1_ := Aside0.mk (Kd.R_elder' (by (with_reducible repeat (first | apply Kd.R_alloc | apply Kd.R_drewN | apply Kd.R_drew)); exact HO_9.out) (Kd.R_base ho0) hb); have n2_ := Aside0.mk (Kd.R_elder' (by (with_reducible repeat (first | apply Kd.R_alloc | apply Kd.R_drewN | apply Kd.R_drew)); exact HO_10.out) (Kd.R_base ho0) hb); have n3_ := Aside0.mk (Kd.R_elder' (by (with_reducible repeat (first | apply Kd.R_alloc | apply Kd.R_drewN | apply Kd.R_drew)); exact HO_1077001.out) (Kd.R_base ho0) hb); have n4_ := Aside0.mk (Kd.R_elder' (by (with_reducible repeat (first | apply Kd.R_alloc | apply Kd.R_drewN | apply Kd.R_drew)); exact HO1088.out) (Kd.R_base ho0) hb); have n5_ := Aside0.mk (Kd.R_lower (Kd.R_new' (Kd.R_new' (Kd.R_new' (Kd.R_new' (Kd.R_new' ho0 (Kd.R_lt (by (with_reducible repeat (first | apply Kd.R_alloc | apply Kd.R_drewN | apply Kd.R_drew)); exact HO_6.out))) (Kd.R_lt (by (with_reducible repeat (first | apply Kd.R_alloc | apply Kd.R_drewN | apply Kd.R_drew)); exact HO_9.out))) (Kd.R_lt (by (with_reducible repeat (first | apply Kd.R_alloc | apply Kd.R_drewN | apply Kd.R_drew)); exact HO_10.out))) (Kd.R_lt (by (with_reducible repeat (first | apply Kd.R_alloc | apply Kd.R_drewN | apply Kd.R_drew)); exact HO_1077001.out))) (Kd.R_lt (by (with_reducible repeat (first | apply Kd.R_alloc | apply Kd.R_drewN | apply Kd.R_drew)); exact HO1088.out))) (below_size (by repeat (first | (with_reducible first | exact HB.out | apply below_alloc | apply pw_below_drewN | apply below_drew1 | refine below_set ?_ GE1059.out | refine below_set ?_ GE1076.out) | exact HB.out)))); have n6_ := Aside0.mk (blk_below (g := gb1059) (o := .cells #[.int .i64 a0_0, .slice A0_1 l0_1.length c0_1] 24 (0, 0)) (by (with_reducible repeat (first | refine blk_drewN ?_ _ | refine blk_drew ?_ | refine blk_alloc ?_ _)); exact BK1059.out) hb); have n7_ := Aside0.mk (blk_below (g := gb1076) (o := .cells #[.int .i64 t1072, .slice Ao31 t1073.length co31] 28 (0, 0)) (by (with_reducible repeat (first | refine blk_drewN ?_ _ | refine blk_drew ?_ | refine blk_alloc ?_ _)); exact BK1076.out) hb); have n8_ := Aside0.mk (below_step (by repeat (first | (with_reducible first | exact HB.out | apply below_alloc | apply pw_below_drewN | apply below_drew1 | refine below_set ?_ GE1059.out | refine below_set ?_ GE1076.out) | exact HB.out)) hb); clear HO_6; clear HO_9; clear HO_10; clear HO_1077001; clear HO1088; clear BK1059; clear BK1076; clear HB; have HO_6 := n0_; have HO_9 := n1_; have HO_10 := n2_; have HO_1077001 := n3_; have HO1088 := n4_; have HO1092 := n5_; have BK1059 := n6_; have BK1076 := n7_; have HB := n8_; clear n0_ n1_ n2_ n3_ n4_ n5_ n6_ n7_ n8_; (try clear hb); (try clear hb2); (try clear hk); (try clear hi); (try clear ho0); obtain ⟨Ao106, co106, eo106⟩ := Kd.R_slice HO1092.out; subst eo106) | ((with_reducible refine gate_callee (f := 23) rfl ?_); refine goesL_ (some 60) rfl rfl Try.func23 (by kernel_rfl) rfl #[.slice Ao34 t1077.length co34, .slice Ao106 t1090.length co106] rfl (by (try simp only [List.map_toArray, List.map_cons, List.map_nil]); first | done | rfl | (simp only [List.length_drop, List.length_take]; rfl)) ?_; (with_reducible refine (laws_eqIntS.calls kj15 _ _ t1077 _ _ t1090 false _ ?side1 ?side2 ?side3 ?side4 A47.out).mono ?_); (case side1 => repeat (first | exact (Kd.R_reads' HO_9.out).2.2 | (with_reducible refine Kd.C_alloc ?_ _) | (with_reducible refine Kd.C_drewN ?_ _) | (with_reducible refine Kd.C_drew ?_))); (case side2 => exact (Kd.R_reads' HO_9.out).2.1); (case side3 => repeat (first | exact (Kd.R_reads' HO1092.out).2.2 | (with_reducible refine Kd.C_alloc ?_ _) | (with_reducible refine Kd.C_drewN ?_ _) | (with_reducible refine Kd.C_drew ?_))); (case side4 => exact (Kd.R_reads' HO1092.out).2.1); rintro e w' ⟨rfl, ⟨nd, rfl⟩⟩; refine ⟨_, rfl, ?_⟩))
                go_ret
                exact ⟨by first | rfl | (simp [errW_none, errW_some] <;> rfl) | (simp [*, errW_none, errW_some] <;> rfl), by repeat (first | (with_reducible first | exact HB.out | apply below_alloc | apply pw_below_drewN | apply below_drew1 | refine below_set ?_ GE1059.out | refine below_set ?_ GE1076.out) | exact HB.out)⟩
            · replace c45 := Bool.eq_false_iff.mpr c45
              subst c45
              have H1 : (some false) = some r := by rw [if_neg (show ¬ (false = true) by decide)] at H; exact H
              clear H
              have H := H1
              clear H1
              obtain rfl := Option.some.inj H
              try go_wp2
              have n0_ := Aside0.mk (Kd.R_drew HO_6.out)
              have n1_ := Aside0.mk (Kd.R_drew HO_9.out)
              have n2_ := Aside0.mk (Kd.R_drew HO_10.out)
              have n3_ := Aside0.mk (Kd.R_drew HO_1077001.out)
              have n4_ := Aside0.mk (blk_drew BK1059.out)
              have n5_ := Aside0.mk (blk_drew BK1076.out)
              have n6_ := Aside0.mk (below_drew1 HB.out)
              clear HO_6
              clear HO_9
              clear HO_10
              clear HO_1077001
              clear BK1059
              clear BK1076
              clear HB
              have HO_6 := n0_
              have HO_9 := n1_
              have HO_10 := n2_
              have HO_1077001 := n3_
              have BK1059 := n4_
              have BK1076 := n5_
              have HB := n6_
              clear n0_ n1_ n2_ n3_ n4_ n5_ n6_
              refine start_ (n := 5) (S := fun w' => w'.cell? ⟨gb1076, 0, none⟩ = some (.int .i64 t1072) ∧ w'.cell? ⟨gb1076, 1, none⟩ = some (.slice Ao31 t1073.length co31) ∧ w'.cell? ⟨gb1059, 0, none⟩ = some (.int .i64 a0_0) ∧ w'.cell? ⟨gb1059, 1, none⟩ = some (.slice A0_1 l0_1.length c0_1)) (ds := []) #[false, false, false, false, false] (by kernel_rfl) rfl rfl ⟨(blk_cell BK1076.out 0).trans rfl, (blk_cell BK1076.out 1).trans rfl, (blk_cell BK1059.out 0).trans rfl, (blk_cell BK1059.out 1).trans rfl⟩ (fun hHeld => ?_)
              generalize wc.drew = w107 at HO_6 HO_9 HO_10 HO_1077001 BK1059 BK1076 HB hHeld ⊢
              refine take_ (i := 0) (N := some 52) (v := ?_) (a' := ?_) #[true, false, false, false, false] rfl rfl (by kernel_rfl) (fun _ _ _ h => h) (Or.inl ⟨by rfl, ?_⟩) hHeld ?_ ?_
              rotate_left
              · rintro w' ⟨s0, s1, s2, s3⟩
                go_simp
                with_reducible rfl
              rotate_left
              · simp only [Act.put, List.setIfInBounds_toArray, List.set_cons_zero, List.set_cons_succ, i64_w, i32_w]
                rfl
              refine take_ (i := 1) (N := some 53) (v := ?_) (a' := ?_) #[true, true, false, false, false] rfl rfl (by kernel_rfl) (fun _ _ _ h => h) (Or.inl ⟨by rfl, ?_⟩) hHeld ?_ ?_
              rotate_left
              · rintro w' ⟨s0, s1, s2, s3⟩
                go_simp
                with_reducible rfl
              rotate_left
              · simp only [Act.put, List.setIfInBounds_toArray, List.set_cons_zero, List.set_cons_succ, i64_w, i32_w]
                rfl
              refine one_ (i := 2) (N := some 54) #[true, true, true, false, false] rfl rfl (by kernel_rfl) (by decide) (fun K hK => ?_)
              refine goes_ Try.func17 (by kernel_rfl) rfl #[.agg #[.int .i64 a0_0, .slice A0_1 l0_1.length c0_1]] (by rfl) rfl rfl (by (try simp only [List.map_toArray, List.map_cons, List.map_nil]); first | done | rfl | (simp only [List.length_drop, List.length_take]; rfl)) ?_
              with_reducible refine (laws_toSpace.calls kj15 a0_0 _ _ l0_1 t1085 t1086 _ ?side1 ?side2 A43.out).mono ?_
              (case side1 => repeat (first | exact (Kd.C_below HR0_1.out HB.out) | (with_reducible refine Kd.C_alloc ?_ _) | (with_reducible refine Kd.C_drewN ?_ _) | (with_reducible refine Kd.C_drew ?_)))
              (case side2 => exact HC0_1.out)
              rintro e w108 ⟨v1087, rfl, ho0, hb⟩
              refine ⟨_, rfl, ?_⟩
              have n0_ := Aside0.mk (Kd.R_elder' (by (with_reducible repeat (first | apply Kd.R_alloc | apply Kd.R_drewN | apply Kd.R_drew)); exact HO_6.out) (Kd.R_base ho0) hb)
              have n1_ := Aside0.mk (Kd.R_elder' (by (with_reducible repeat (first | apply Kd.R_alloc | apply Kd.R_drewN | apply Kd.R_drew)); exact HO_9.out) (Kd.R_base ho0) hb)
              have n2_ := Aside0.mk (Kd.R_elder' (by (with_reducible repeat (first | apply Kd.R_alloc | apply Kd.R_drewN | apply Kd.R_drew)); exact HO_10.out) (Kd.R_base ho0) hb)
              have n3_ := Aside0.mk (Kd.R_elder' (by (with_reducible repeat (first | apply Kd.R_alloc | apply Kd.R_drewN | apply Kd.R_drew)); exact HO_1077001.out) (Kd.R_base ho0) hb)
              have n4_ := Aside0.mk (Kd.R_lower (Kd.R_new' (Kd.R_new' (Kd.R_new' (Kd.R_new' ho0 (Kd.R_lt (by (with_reducible repeat (first | apply Kd.R_alloc | apply Kd.R_drewN | apply Kd.R_drew)); exact HO_6.out))) (Kd.R_lt (by (with_reducible repeat (first | apply Kd.R_alloc | apply Kd.R_drewN | apply Kd.R_drew)); exact HO_9.out))) (Kd.R_lt (by (with_reducible repeat (first | apply Kd.R_alloc | apply Kd.R_drewN | apply Kd.R_drew)); exact HO_10.out))) (Kd.R_lt (by (with_reducible repeat (first | apply Kd.R_alloc | apply Kd.R_drewN | apply Kd.R_drew)); exact HO_1077001.out))) (below_size (by repeat (first | (with_reducible first | exact HB.out | apply below_alloc | apply pw_below_drewN | apply below_drew1 | refine below_set ?_ GE1059.out | refine below_set ?_ GE1076.out) | exact HB.out))))
              have n5_ := Aside0.mk (blk_below (g := gb1059) (o := .cells #[.int .i64 a0_0, .slice A0_1 l0_1.length c0_1] 24 (0, 0)) (by (with_reducible repeat (first | refine blk_drewN ?_ _ | refine blk_drew ?_ | refine blk_alloc ?_ _)); exact BK1059.out) hb)
              have n6_ := Aside0.mk (blk_below (g := gb1076) (o := .cells #[.int .i64 t1072, .slice Ao31 t1073.length co31] 28 (0, 0)) (by (with_reducible repeat (first | refine blk_drewN ?_ _ | refine blk_drew ?_ | refine blk_alloc ?_ _)); exact BK1076.out) hb)
              have n7_ := Aside0.mk (below_step (by repeat (first | (with_reducible first | exact HB.out | apply below_alloc | apply pw_below_drewN | apply below_drew1 | refine below_set ?_ GE1059.out | refine below_set ?_ GE1076.out) | exact HB.out)) hb)
              clear HO_6
              clear HO_9
              clear HO_10
              clear HO_1077001
              clear BK1059
              clear BK1076
              clear HB
              have HO_6 := n0_
              have HO_9 := n1_
              have HO_10 := n2_
              have HO_1077001 := n3_
              have HO1088 := n4_
              have BK1059 := n5_
              have BK1076 := n6_
              have HB := n7_
              clear n0_ n1_ n2_ n3_ n4_ n5_ n6_ n7_
              (try clear hb)
              (try clear hb2)
              (try clear hk)
              (try clear hi)
              (try clear ho0)
              obtain ⟨Ao109, co109, eo109⟩ := Kd.R_slice HO1088.out
              (first | subst eo109 | (injection eo109 with f1_ f2_ f3_; have f4_ := f1_.symm; have f5_ := f3_.symm; clear f1_ f2_ f3_; subst f4_; subst f5_))
              refine hK.out _ _ ⟨(blk_cell BK1076.out 0).trans rfl, (blk_cell BK1076.out 1).trans rfl, (blk_cell BK1059.out 0).trans rfl, (blk_cell BK1059.out 1).trans rfl⟩ (fun hHeld => ?_)
              clear hK K
              refine norm_ (a' := ?_) ?_ ?_
              rotate_left
              · show Act.put _ (some 54) _ = _
                simp only [Act.put, List.setIfInBounds_toArray, List.set_cons_zero, List.set_cons_succ, i64_w, i32_w]
                rfl
              refine one_ (i := 3) (N := some 55) #[true, true, true, true, false] rfl rfl (by kernel_rfl) (by decide) (fun K hK => ?_)
              refine goes_ Try.func19 (by kernel_rfl) rfl #[.agg #[.int .i64 t1072, .slice Ao31 t1073.length co31], .agg #[.int .i64 t1085, .slice Ao109 t1086.length co109]] (by rfl) rfl rfl (by (try simp only [List.map_toArray, List.map_cons, List.map_nil]); first | done | rfl | (simp only [List.length_drop, List.length_take]; rfl)) ?_
              with_reducible refine (laws_eqSpace.calls kj15 t1072 _ _ t1073 t1085 _ _ t1086 false _ ?side1 ?side2 ?side3 ?side4 A44.out).mono ?_
              (case side1 => repeat (first | exact (Kd.R_reads' HO_1077001.out).2.2 | (with_reducible refine Kd.C_alloc ?_ _) | (with_reducible refine Kd.C_drewN ?_ _) | (with_reducible refine Kd.C_drew ?_)))
              (case side2 => exact (Kd.R_reads' HO_1077001.out).2.1)
              (case side3 => repeat (first | exact (Kd.R_reads' HO1088.out).2.2 | (with_reducible refine Kd.C_alloc ?_ _) | (with_reducible refine Kd.C_drewN ?_ _) | (with_reducible refine Kd.C_drew ?_)))
              (case side4 => exact (Kd.R_reads' HO1088.out).2.1)
              rintro e w110 ⟨rfl, hb⟩
              refine ⟨_, rfl, ?_⟩
              have n0_ := Aside0.mk (Kd.R_below (by (with_reducible repeat (first | apply Kd.R_alloc | apply Kd.R_drewN | apply Kd.R_drew)); exact HO_6.out) hb)
              have n1_ := Aside0.mk (Kd.R_below (by (with_reducible repeat (first | apply Kd.R_alloc | apply Kd.R_drewN | apply Kd.R_drew)); exact HO_9.out) hb)
              have n2_ := Aside0.mk (Kd.R_below (by (with_reducible repeat (first | apply Kd.R_alloc | apply Kd.R_drewN | apply Kd.R_drew)); exact HO_10.out) hb)
              have n3_ := Aside0.mk (Kd.R_below (by (with_reducible repeat (first | apply Kd.R_alloc | apply Kd.R_drewN | apply Kd.R_drew)); exact HO_1077001.out) hb)
              have n4_ := Aside0.mk (Kd.R_below (by (with_reducible repeat (first | apply Kd.R_alloc | apply Kd.R_drewN | apply Kd.R_drew)); exact HO1088.out) hb)
              have n5_ := Aside0.mk (blk_below (g := gb1059) (o := .cells #[.int .i64 a0_0, .slice A0_1 l0_1.length c0_1] 24 (0, 0)) (by (with_reducible repeat (first | refine blk_drewN ?_ _ | refine blk_drew ?_ | refine blk_alloc ?_ _)); exact BK1059.out) hb)
              have n6_ := Aside0.mk (blk_below (g := gb1076) (o := .cells #[.int .i64 t1072, .slice Ao31 t1073.length co31] 28 (0, 0)) (by (with_reducible repeat (first | refine blk_drewN ?_ _ | refine blk_drew ?_ | refine blk_alloc ?_ _)); exact BK1076.out) hb)
              have n7_ := Aside0.mk (below_step (by repeat (first | (with_reducible first | exact HB.out | apply below_alloc | apply pw_below_drewN | apply below_drew1 | refine below_set ?_ GE1059.out | refine below_set ?_ GE1076.out) | exact HB.out)) hb)
              clear HO_6
              clear HO_9
              clear HO_10
              clear HO_1077001
              clear HO1088
              clear BK1059
              clear BK1076
              clear HB
              have HO_6 := n0_
              have HO_9 := n1_
              have HO_10 := n2_
              have HO_1077001 := n3_
              have HO1088 := n4_
              have BK1059 := n5_
              have BK1076 := n6_
              have HB := n7_
              clear n0_ n1_ n2_ n3_ n4_ n5_ n6_ n7_
              (try clear hb)
              (try clear hb2)
              (try clear hk)
              (try clear hi)
              refine hK.out _ _ ⟨(blk_cell BK1076.out 0).trans rfl, (blk_cell BK1076.out 1).trans rfl, (blk_cell BK1059.out 0).trans rfl, (blk_cell BK1059.out 1).trans rfl⟩ (fun hHeld => ?_)
              clear hK K
              refine norm_ (a' := ?_) ?_ ?_
              rotate_left
              · show Act.put _ (some 55) _ = _
                simp only [Act.put, List.setIfInBounds_toArray, List.set_cons_zero, List.set_cons_succ, i64_w, i32_w]
                rfl
              refine pure_ (i := 4) (N := some 56) (v := ?_) (a' := ?_) #[true, true, true, true, true] rfl rfl (by kernel_rfl) (fun _ _ _ h => h) (Or.inl ⟨by rfl, ?_⟩) ?_ ?_
              rotate_left
              · intro w'
                go_simp
                with_reducible rfl
              rotate_left
              · simp only [Act.put, List.setIfInBounds_toArray, List.set_cons_zero, List.set_cons_succ, i64_w, i32_w]
                rfl
              refine done_ (by kernel_rfl) ?_
              try go_wp2
              go_ret
              exact ⟨by first | rfl | (simp [errW_none, errW_some] <;> rfl) | (simp [*, errW_none, errW_some] <;> rfl), by repeat (first | (with_reducible first | exact HB.out | apply below_alloc | apply pw_below_drewN | apply below_drew1 | refine below_set ?_ GE1059.out | refine below_set ?_ GE1076.out) | exact HB.out)⟩

/-- THE ONE PURE STATEMENT of laws_FnExactFinishWord. -/
def laws_FnExactFinishWord.Pure : Prop := ∀ (a0_0 : Int) (l0_1 : List Int) (l1 : List Int), (Lit.int .i64 a0_0).wf = true → l0_1.length ≤ maxLen → (∀ x ∈ l0_1, (Lit.int .i64 x).wf = true) → l1.length ≤ maxLen → (∀ x ∈ l1, (Lit.int .i64 x).wf = true) → ∃ k, laws_FnExactFinishWord.f k a0_0 l0_1 l1 = some true
theorem laws_FnExactFinishWord.walk (P : laws_FnExactFinishWord.Pure) (a0_0 : Int) (A0_1 : Option Addr) (c0_1 : Nat) (l0_1 : List Int) (A1 : Option Addr) (c1 : Nat) (l1 : List Int) (w : World) (w0_0 : (Lit.int .i64 a0_0).wf = true) (hr0_1 : Kd.C (Kd.int .i64) w A0_1 l0_1.length l0_1) (hc0_1 : l0_1.length ≤ c0_1) (hm0_1 : l0_1.length ≤ maxLen) (hw0_1 : ∀ x ∈ l0_1, (Lit.int .i64 x).wf = true) (hr1 : Kd.C (Kd.int .i64) w A1 l1.length l1) (hc1 : l1.length ≤ c1) (hm1 : l1.length ≤ maxLen) (hw1 : ∀ x ∈ l1, (Lit.int .i64 x).wf = true) :
    Calls Try.prog 12 #[.agg #[.int .i64 a0_0, .slice A0_1 l0_1.length c0_1], .slice A1 l1.length c1] w fun e w' => e = .returned (.bool true) ∧ Below w.heap.size w w' := by
  obtain ⟨k, h⟩ := P a0_0 l0_1 l1 w0_0 hm0_1 hw0_1 hm1 hw1
  refine (laws_FnExactFinishWord.calls k a0_0 A0_1 c0_1 l0_1 A1 c1 l1 true w hr0_1 hc0_1 hr1 hc1 h).mono ?_
  rintro e w' ⟨rfl, hd⟩
  exact ⟨rfl, hd⟩

end Go.Proofs.Ytnpfkbfmipnofaa.P
