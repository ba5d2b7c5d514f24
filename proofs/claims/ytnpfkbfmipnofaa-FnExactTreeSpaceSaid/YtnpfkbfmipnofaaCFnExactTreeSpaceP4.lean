/- Functions of the program as plain Lean functions, each with a proof that the Go code computes it; written by a program of this session. Conditions: as each theorem states. -/
import Derived.Test.YtnpfkbfmipnofaaCFnExactTreeSpaceP3
namespace Go.Proofs.Ytnpfkbfmipnofaa.P
open Go.RowKit Go.Proofs.YtnpfkbfmipnofaaW.PrintWords Go.Proofs.YtnpfkbfmipnofaaW.PrintLast Go.Proofs.YtnpfkbfmipnofaaW.PrintMore
attribute [local go_sem] max2_int min2_int max_two min_two max_three min_three max_four min_four   -- for this text's walks alone
set_option linter.unusedVariables false
set_option linter.unusedSimpArgs false

/-! ### impl_TreeSpace: function 54 -/
def impl_TreeSpace.f (k : Nat) (l0_0 : List Int) : Option (Int × List Int × Bool) := (some (([(⟨l0_0⟩ : S58)] : List (S58)) : List (S58))).bind fun y1161 => (if 0 < (y1161.length : Int) then ((impl_IsNet.f k ((rd_T58 y1161 0).f0)).bind fun t1166 => (if t1166 = true then ((impl_Net_isTree.f k ((rd_T58 y1161 0).f0)).bind fun t1168 => (if t1168 = true then ((impl_those__TreeSpace_1.f k (((rd_T58 y1161 0).f0).length : Int) y1161).bind fun bt1170 => (some (bt1170.1, bt1170.2, true))) else (some (0, ([] : List Int), false)))) else (some (0, ([] : List Int), false)))) else (none))
theorem impl_TreeSpace.mono : ∀ a0 k, LeO (impl_TreeSpace.f k a0) (impl_TreeSpace.f (k + 1) a0) := by
  intro a0 k
  unfold impl_TreeSpace.f
  repeat' first
      | (with_reducible exact impl_IsNet.mono _ _)
      | (with_reducible exact impl_Net_isTree.mono _ _)
      | (with_reducible exact impl_those__TreeSpace_1.mono _ _ _)
      | (with_reducible exact LeO.refl _)
      | (with_reducible exact LeO.none _)
      | (with_reducible refine LeO.ite ?_ ?_)
      | (with_reducible refine LeO.bind ?_ (fun _ => ?_))
      | exact impl_IsNet.mono _ _
      | exact impl_Net_isTree.mono _ _
      | exact impl_those__TreeSpace_1.mono _ _ _
      | exact LeO.none _
      | refine LeO.ite ?_ ?_
      | refine LeO.bind ?_ (fun _ => ?_)
set_option maxHeartbeats 8000000 in
set_option maxRecDepth 100000 in
theorem impl_TreeSpace.calls (k : Nat) (P0_0_ : Nat → Prop) (A0_0 : Option Addr) (c0_0 : Nat) (l0_0 : List Int) (r1 : Int) (r2 : List Int) (r3 : Bool) (w : World) (hs0_0 : Kd.V (Kd.int .i64) 3 w w.heap.size (fun k_ => P0_0_ k_) (.slice A0_0 l0_0.length c0_0) l0_0) (h : impl_TreeSpace.f k l0_0 = some (r1, r2, r3)) :
    Calls Try.prog 54 #[.agg #[.slice A0_0 l0_0.length c0_0]] w fun e w' => ∃ v1_ : Value, e = .returned (.tuple #[.agg #[.int .i64 r1, v1_], .bool r3]) ∧ Kd.R (Kd.int .i64) 3 w' w.heap.size (fun k_ => (w.heap.size ≤ k_)) v1_ r2 ∧ Below w.heap.size w w' := by
  have hu58 := Try.underlying58
  have hu28 := Try.underlying28
  have HO0_0 := Aside0.mk (show Kd.V (Kd.int .i64) 3 w w.heap.size (fun k_ => (P0_0_ k_ ∨ w.heap.size ≤ k_)) (.slice A0_0 l0_0.length c0_0) l0_0 from Kd.V_mono hs0_0 (fun k_ hk => .inl hk))
  have HB := Aside0.mk (Below.refl w.heap.size w)
  have H : ((some (([(⟨l0_0⟩ : S58)] : List (S58)) : List (S58))).bind fun y1161 => (if 0 < (y1161.length : Int) then ((impl_IsNet.f k ((rd_T58 y1161 0).f0)).bind fun t1166 => (if t1166 = true then ((impl_Net_isTree.f k ((rd_T58 y1161 0).f0)).bind fun t1168 => (if t1168 = true then ((impl_those__TreeSpace_1.f k (((rd_T58 y1161 0).f0).length : Int) y1161).bind fun bt1170 => (some (bt1170.1, bt1170.2, true))) else (some (0, ([] : List Int), false)))) else (some (0, ([] : List Int), false)))) else (none))) = some (r1, r2, r3) := h
  clear h
  obtain ⟨y1161, hy1161⟩ : ∃ y_ : List (S58), y_ = (([(⟨l0_0⟩ : S58)] : List (S58))) := ⟨_, rfl⟩
  replace H : (if 0 < (y1161.length : Int) then ((impl_IsNet.f k ((rd_T58 y1161 0).f0)).bind fun t1166 => (if t1166 = true then ((impl_Net_isTree.f k ((rd_T58 y1161 0).f0)).bind fun t1168 => (if t1168 = true then ((impl_those__TreeSpace_1.f k (((rd_T58 y1161 0).f0).length : Int) y1161).bind fun bt1170 => (some (bt1170.1, bt1170.2, true))) else (some (0, ([] : List Int), false)))) else (some (0, ([] : List Int), false)))) else (none)) = some (r1, r2, r3) := by first | (rw [hy1161]; with_reducible exact H) | (have H2_ := (Option.bind_some _ _).symm.trans H; rw [hy1161]; with_reducible exact H2_) | (have H2_ := (Option.bind_some _ _).symm.trans H; with_reducible exact H2_) | with_reducible exact H | (rw [hy1161]; exact H) | exact H
  have Ny1161 := Aside0.mk hy1161
  clear hy1161
  by_cases c2 : 0 < (y1161.length : Int)
  · rw [if_pos c2] at H
    have c2b0 : decide (0 < (y1161.length : Int)) = true := decide_eq_true c2
    have c2b1 : decide (0 < y1161.length) = true := decide_eq_true (by omega)
    clear c2
    replace H := Option.bind_eq_some_iff.mp H
    obtain ⟨t1166, A30, H⟩ := H
    replace H : (if t1166 = true then ((impl_Net_isTree.f k ((rd_T58 y1161 0).f0)).bind fun t1168 => (if t1168 = true then ((impl_those__TreeSpace_1.f k (((rd_T58 y1161 0).f0).length : Int) y1161).bind fun bt1170 => (some (bt1170.1, bt1170.2, true))) else (some (0, ([] : List Int), false)))) else (some (0, ([] : List Int), false))) = some (r1, r2, r3) := H
    have A3 := Aside0.mk A30
    clear A30
    by_cases c4 : t1166 = true
    · subst c4
      have H1 : ((impl_Net_isTree.f k ((rd_T58 y1161 0).f0)).bind fun t1168 => (if t1168 = true then ((impl_those__TreeSpace_1.f k (((rd_T58 y1161 0).f0).length : Int) y1161).bind fun bt1170 => (some (bt1170.1, bt1170.2, true))) else (some (0, ([] : List Int), false)))) = some (r1, r2, r3) := by rw [if_pos rfl] at H; exact H
      clear H
      have H := H1
      clear H1
      replace H := Option.bind_eq_some_iff.mp H
      obtain ⟨t1168, A50, H⟩ := H
      replace H : (if t1168 = true then ((impl_those__TreeSpace_1.f k (((rd_T58 y1161 0).f0).length : Int) y1161).bind fun bt1170 => (some (bt1170.1, bt1170.2, true))) else (some (0, ([] : List Int), false))) = some (r1, r2, r3) := H
      have A5 := Aside0.mk A50
      clear A50
      by_cases c6 : t1168 = true
      · subst c6
        have H1 : ((impl_those__TreeSpace_1.f k (((rd_T58 y1161 0).f0).length : Int) y1161).bind fun bt1170 => (some (bt1170.1, bt1170.2, true))) = some (r1, r2, r3) := by rw [if_pos rfl] at H; exact H
        clear H
        have H := H1
        clear H1
        replace H := Option.bind_eq_some_iff.mp H
        obtain ⟨⟨t1170, t1171⟩, A70, H⟩ := H
        replace H : (some (t1170, t1171, true)) = some (r1, r2, r3) := H
        have A7 := Aside0.mk A70
        clear A70
        simp only [Option.some.injEq, Prod.mk.injEq] at H
        obtain ⟨rfl, rfl, rfl⟩ := H
        have hmf_ : ∀ (fn : Fn) (first cap : Array Value) (w : World), (Instr.makeFunc fn first cap).run Try.prog w = .ok (.func fn first cap) w := fun _ _ _ _ => rfl
        go_enter Try.func54, Try.ntmps54
        go_wp2_with (first | ((with_reducible refine gate_dst (N := 1) rfl ?_); refine box_N k58 _ 58 ?hg (N' := 1) ?hd (xs := ([(⟨l0_0⟩ : S58)] : List (S58))) (inner := [.slice A0_0 l0_0.length c0_0]) (ok := (fun k_ => (P0_0_ k_ ∨ w.heap.size ≤ k_))) (okp := (fun k_ => (P0_0_ k_ ∨ w.heap.size ≤ k_))) ?hr ?hp (fun _ hk => hk) ((show ∀ k_, w.heap.size ≤ k_ → (fun k_ => (P0_0_ k_ ∨ w.heap.size ≤ k_)) k_ from fun k_ hk => (.inr (Nat.le_trans (below_size (by repeat (first | (with_reducible first | exact HB.out | apply below_alloc | apply pw_below_drewN | apply below_drew1) | exact HB.out))) hk))) _ (Nat.le_refl _)) (Below.refl _ _) (Nat.le_refl _) (by simp) ?_; (case hd => rfl); (case hg => rfl); (case hr => first | (go_simp; done) | (go_simp; rfl) | (simp [execOp, Instr.box, newVar, newRow, go_sem]; done) | (simp [execOp, Instr.box, newVar, newRow, go_sem]; rfl)); (case hp => exact (Reps.one (show Kd.FK k58 _ _ (⟨l0_0⟩ : S58) [.slice A0_0 l0_0.length c0_0] from (k58_mkF _ _ (⟨l0_0⟩ : S58) (Kd.V_reads' (Kd.V_mono (ok' := (fun k_ => (P0_0_ k_ ∨ w.heap.size ≤ k_))) (HO0_0.out) (fun k_ hk => hk))).2.1 (Kd.V_F (Kd.V_mono (ok' := (fun k_ => (P0_0_ k_ ∨ w.heap.size ≤ k_))) (HO0_0.out) (fun k_ hk => hk))))) (Reps.none _ _))); intro v1162 w8 ho9 hb hg_ hnew_; clear hg_ hnew_; (first | rw [← Ny1161.out] at ho9 | (simp only [Int.reduceToNat] at ho9; rw [← Ny1161.out] at ho9)); have n0_ := Aside0.mk (Kd.V_elder' (by (with_reducible repeat (first | apply Kd.V_alloc | apply Kd.V_drewN | apply Kd.V_drew)); exact HO0_0.out) (Kd.N_base ho9) hb); have n1_ := Aside0.mk (Kd.N_lower ho9 (below_size (by repeat (first | (with_reducible first | exact HB.out | apply below_alloc | apply pw_below_drewN | apply below_drew1) | exact HB.out)))); have n2_ := Aside0.mk (below_step (by repeat (first | (with_reducible first | exact HB.out | apply below_alloc | apply pw_below_drewN | apply below_drew1) | exact HB.out)) hb); clear HO0_0; clear HB; have HO0_0 := n0_; have HO1163 := n1_; have HB := n2_; clear n0_ n1_ n2_; clear hb ho9) | ((with_reducible refine gate_dst (N := 2) rfl ?_); refine box_event ?hg (N := 2) ?hd (cs := #[.int .i64 0, .slice none 0 0]) (t := 28) ?hr ?_; (case hd => rfl); (case hg => rfl); (case hr => first | (go_simp; done) | (go_simp; rfl)); intro gb1164 hg w10 hbox hb; have n0_ := Aside0.mk (Kd.V_below (Kd.V_elderB (by (with_reducible repeat (first | apply Kd.V_alloc | apply Kd.V_drewN | apply Kd.V_drew)); exact HO0_0.out) gb1164 (Nat.le_of_eq hg.symm)) hb); have n1_ := Aside0.mk (Kd.N_below (Kd.N_elderB (by (with_reducible repeat (first | apply Kd.N_alloc | apply Kd.N_drewN | apply Kd.N_drew)); exact HO1163.out) gb1164 (Nat.le_of_eq hg.symm)) hb); have n2_ := Aside0.mk (below_step (by repeat (first | (with_reducible first | exact HB.out | apply below_alloc | apply pw_below_drewN | apply below_drew1) | exact HB.out)) hb); have n3_ := Aside0.mk (hbox); have n4_ := Aside0.mk ((by rw [hg]; exact (below_size (by repeat (first | (with_reducible first | exact HB.out | apply below_alloc | apply pw_below_drewN | apply below_drew1) | exact HB.out))) : w.heap.size ≤ gb1164)); have n5_ := Aside0.mk ((by rw [hg]; exact (below_size (by repeat (first | (with_reducible first | exact HB.out | apply below_alloc | apply pw_below_drewN | apply below_drew1) | exact HB.out))) : w.heap.size ≤ gb1164)); clear HO0_0; clear HO1163; clear HB; have HO0_0 := n0_; have HO1163 := n1_; have HB := n2_; have BK1164 := n3_; have GW1164 := n4_; have GE1164 := n5_; clear n0_ n1_ n2_ n3_ n4_ n5_; clear hb hbox hg; obtain ⟨Ao11, co11, eo11⟩ := Kd.N_slice HO1163.out; subst eo11; (try simp only [asP_slice]); have p1165 : 0 ≤ (0 : Int) := (by omega); have q1165 : 0 < (y1161.length : Int) := of_decide_eq_true (by first | (with_reducible assumption) | assumption); obtain ⟨ad1165, A1165_0, c1165_0, e1165, hx1165_0, hl1165_0, hi1165_0⟩ := at_T58 (Kd.N_reads' HO1163.out).2.2 0 p1165 q1165; cases e1165; obtain ⟨ce1165, hce1165, hMe1165, hcc1165⟩ := Kd.N_get HO1163.out z58 0 p1165 (by first | exact q1165 | exact of_decide_eq_true (by first | (with_reducible assumption) | assumption) | (have e_ := (Kd.N_reads' HO1163.out).1; omega)); obtain ⟨ua1165_0, uc1165_0, rfl, ul1165_0, ge1165_0⟩ := k58_openF hMe1165; have hv1165_0 := hcc1165 0 _ rfl; rw [Nat.add_zero, show (k58).sz = 1 from rfl, Nat.mul_one] at hv1165_0; replace hv1165_0 := Option.some.inj (hv1165_0.symm.trans hx1165_0); injection hv1165_0 with hva_ hvn_ hvc_; rw [hva_] at ge1165_0; rw [hvc_] at ul1165_0; have HL1165_0 := Aside0.mk (show Kd.V (Kd.int .i64) 3 _ w.heap.size _ _ ((rd_T58 y1161 0).f0) from Kd.V_mk ul1165_0 ge1165_0); clear hva_ hvn_ hvc_ ge1165_0 ul1165_0; clear hcc1165 hce1165; have qi1165 : (0 < y1161.length) = True := eq_true (by omega); (try rw [show ((0 : Int)).toNat = 0 from rfl] at hx1165_0); (try rw [Addr.add_zero'] at hx1165_0); have HR1165_0 := Aside0.mk hi1165_0; have HC1165_0 := Aside0.mk hl1165_0; clear hi1165_0 hl1165_0; replace p1165 := eq_true p1165; replace q1165 := eq_true q1165) | ((with_reducible refine gate_callee (f := 98) rfl ?_); refine goesL_ (some 5) rfl rfl Try.func98 (by kernel_rfl) rfl #[.agg #[.slice A1165_0 ((rd_T58 y1161 0).f0).length c1165_0]] rfl (by (try simp only [List.map_toArray, List.map_cons, List.map_nil]); first | done | rfl | (simp only [List.length_drop, List.length_take]; rfl)) ?_; (with_reducible refine (impl_IsNet.calls k _ _ ((rd_T58 y1161 0).f0) true _ ?side1 ?side2 A3.out).mono ?_); (case side1 => repeat (first | exact (by repeat (first | (with_reducible exact HR1165_0.out) | (with_reducible refine Kd.C_alloc ?_ _) | (with_reducible refine Kd.C_drewN ?_ _) | (with_reducible refine Kd.C_drew ?_) | exact HR1165_0.out)) | (with_reducible refine Kd.C_alloc ?_ _) | (with_reducible refine Kd.C_drewN ?_ _) | (with_reducible refine Kd.C_drew ?_))); (case side2 => exact HC1165_0.out); rintro e w12 ⟨rfl, hb⟩; refine ⟨_, rfl, ?_⟩; have n0_ := Aside0.mk (Kd.V_below (by (with_reducible repeat (first | apply Kd.V_alloc | apply Kd.V_drewN | apply Kd.V_drew)); exact HO0_0.out) hb); have n1_ := Aside0.mk (Kd.N_below (by (with_reducible repeat (first | apply Kd.N_alloc | apply Kd.N_drewN | apply Kd.N_drew)); exact HO1163.out) hb); have n2_ := Aside0.mk (Kd.V_below (by (with_reducible repeat (first | apply Kd.V_alloc | apply Kd.V_drewN | apply Kd.V_drew)); exact HL1165_0.out) hb); have n3_ := Aside0.mk (blk_below (g := gb1164) (o := .cells #[.int .i64 0, .slice none 0 0] 28 (0, 0)) (by (with_reducible repeat (first | refine blk_drewN ?_ _ | refine blk_drew ?_ | refine blk_alloc ?_ _)); exact BK1164.out) hb); have n4_ := Aside0.mk (Kd.C_below (by repeat (first | (with_reducible exact HR1165_0.out) | (with_reducible refine Kd.C_alloc ?_ _) | (with_reducible refine Kd.C_drewN ?_ _) | (with_reducible refine Kd.C_drew ?_) | exact HR1165_0.out)) hb); have n5_ := Aside0.mk (below_step (by repeat (first | (with_reducible first | exact HB.out | apply below_alloc | apply pw_below_drewN | apply below_drew1 | refine below_set ?_ GE1164.out) | exact HB.out)) hb); clear HO0_0; clear HO1163; clear HL1165_0; clear BK1164; clear HR1165_0; clear HB; have HO0_0 := n0_; have HO1163 := n1_; have HL1165_0 := n2_; have BK1164 := n3_; have HR1165_0 := n4_; have HB := n5_; clear n0_ n1_ n2_ n3_ n4_ n5_; (try clear hb); (try clear hb2); (try clear hk); (try clear hi); have p1167 : 0 ≤ (0 : Int) := (by omega); have q1167 : 0 < (y1161.length : Int) := of_decide_eq_true (by first | (with_reducible assumption) | assumption); obtain ⟨ad1167, A1167_0, c1167_0, e1167, hx1167_0, hl1167_0, hi1167_0⟩ := at_T58 (Kd.N_reads' HO1163.out).2.2 0 p1167 q1167; obtain rfl : ad1165 = ad1167 := (by injection e1167); obtain ⟨ce1167, hce1167, hMe1167, hcc1167⟩ := Kd.N_get HO1163.out z58 0 p1167 (by first | exact q1167 | exact of_decide_eq_true (by first | (with_reducible assumption) | assumption) | (have e_ := (Kd.N_reads' HO1163.out).1; omega)); obtain ⟨ua1167_0, uc1167_0, rfl, ul1167_0, ge1167_0⟩ := k58_openF hMe1167; have hv1167_0 := hcc1167 0 _ rfl; rw [Nat.add_zero, show (k58).sz = 1 from rfl, Nat.mul_one] at hv1167_0; replace hv1167_0 := Option.some.inj (hv1167_0.symm.trans hx1167_0); injection hv1167_0 with hva_ hvn_ hvc_; rw [hva_] at ge1167_0; rw [hvc_] at ul1167_0; have HL1167_0 := Aside0.mk (show Kd.V (Kd.int .i64) 3 _ w.heap.size _ _ ((rd_T58 y1161 0).f0) from Kd.V_mk ul1167_0 ge1167_0); clear hva_ hvn_ hvc_ ge1167_0 ul1167_0; clear hcc1167 hce1167; have qi1167 : (0 < y1161.length) = True := eq_true (by omega); (try rw [show ((0 : Int)).toNat = 0 from rfl] at hx1167_0); (try rw [Addr.add_zero'] at hx1167_0); have HR1167_0 := Aside0.mk hi1167_0; have HC1167_0 := Aside0.mk hl1167_0; clear hi1167_0 hl1167_0; replace p1167 := eq_true p1167; replace q1167 := eq_true q1167) | (go_at_call 110; (with_reducible refine (impl_Net_isTree.calls k _ _ ((rd_T58 y1161 0).f0) true _ ?side1 ?side2 A5.out).mono ?_); (case side1 => repeat (first | exact (by repeat (first | (with_reducible exact HR1167_0.out) | (with_reducible refine Kd.C_alloc ?_ _) | (with_reducible refine Kd.C_drewN ?_ _) | (with_reducible refine Kd.C_drew ?_) | exact HR1167_0.out)) | (with_reducible refine Kd.C_alloc ?_ _) | (with_reducible refine Kd.C_drewN ?_ _) | (with_reducible refine Kd.C_drew ?_))); (case side2 => exact HC1167_0.out); rintro e w13 ⟨rfl, hb⟩; have n0_ := Aside0.mk (Kd.V_below (by (with_reducible repeat (first | apply Kd.V_alloc | apply Kd.V_drewN | apply Kd.V_drew)); exact HO0_0.out) hb); have n1_ := Aside0.mk (Kd.N_below (by (with_reducible repeat (first | apply Kd.N_alloc | apply Kd.N_drewN | apply Kd.N_drew)); exact HO1163.out) hb); have n2_ := Aside0.mk (Kd.V_below (by (with_reducible repeat (first | apply Kd.V_alloc | apply Kd.V_drewN | apply Kd.V_drew)); exact HL1165_0.out) hb); have n3_ := Aside0.mk (Kd.V_below (by (with_reducible repeat (first | apply Kd.V_alloc | apply Kd.V_drewN | apply Kd.V_drew)); exact HL1167_0.out) hb); have n4_ := Aside0.mk (blk_below (g := gb1164) (o := .cells #[.int .i64 0, .slice none 0 0] 28 (0, 0)) (by (with_reducible repeat (first | refine blk_drewN ?_ _ | refine blk_drew ?_ | refine blk_alloc ?_ _)); exact BK1164.out) hb); have n5_ := Aside0.mk (Kd.C_below (by repeat (first | (with_reducible exact HR1165_0.out) | (with_reducible refine Kd.C_alloc ?_ _) | (with_reducible refine Kd.C_drewN ?_ _) | (with_reducible refine Kd.C_drew ?_) | exact HR1165_0.out)) hb); have n6_ := Aside0.mk (Kd.C_below (by repeat (first | (with_reducible exact HR1167_0.out) | (with_reducible refine Kd.C_alloc ?_ _) | (with_reducible refine Kd.C_drewN ?_ _) | (with_reducible refine Kd.C_drew ?_) | exact HR1167_0.out)) hb); have n7_ := Aside0.mk (below_step (by repeat (first | (with_reducible first | exact HB.out | apply below_alloc | apply pw_below_drewN | apply below_drew1 | refine below_set ?_ GE1164.out) | exact HB.out)) hb); clear HO0_0; clear HO1163; clear HL1165_0; clear HL1167_0; clear BK1164; clear HR1165_0; clear HR1167_0; clear HB; have HO0_0 := n0_; have HO1163 := n1_; have HL1165_0 := n2_; have HL1167_0 := n3_; have BK1164 := n4_; have HR1165_0 := n5_; have HR1167_0 := n6_; have HB := n7_; clear n0_ n1_ n2_ n3_ n4_ n5_ n6_ n7_; (try clear hb); (try clear hb2); (try clear hk); (try clear hi); have p1169 : 0 ≤ (0 : Int) := (by omega); have q1169 : 0 < (y1161.length : Int) := of_decide_eq_true (by first | (with_reducible assumption) | assumption); obtain ⟨ad1169, A1169_0, c1169_0, e1169, hx1169_0, hl1169_0, hi1169_0⟩ := at_T58 (Kd.N_reads' HO1163.out).2.2 0 p1169 q1169; obtain rfl : ad1165 = ad1169 := (by injection e1169); obtain ⟨ce1169, hce1169, hMe1169, hcc1169⟩ := Kd.N_get HO1163.out z58 0 p1169 (by first | exact q1169 | exact of_decide_eq_true (by first | (with_reducible assumption) | assumption) | (have e_ := (Kd.N_reads' HO1163.out).1; omega)); obtain ⟨ua1169_0, uc1169_0, rfl, ul1169_0, ge1169_0⟩ := k58_openF hMe1169; have hv1169_0 := hcc1169 0 _ rfl; rw [Nat.add_zero, show (k58).sz = 1 from rfl, Nat.mul_one] at hv1169_0; replace hv1169_0 := Option.some.inj (hv1169_0.symm.trans hx1169_0); injection hv1169_0 with hva_ hvn_ hvc_; rw [hva_] at ge1169_0; rw [hvc_] at ul1169_0; have HL1169_0 := Aside0.mk (show Kd.V (Kd.int .i64) 3 _ w.heap.size _ _ ((rd_T58 y1161 0).f0) from Kd.V_mk ul1169_0 ge1169_0); clear hva_ hvn_ hvc_ ge1169_0 ul1169_0; clear hcc1169 hce1169; have qi1169 : (0 < y1161.length) = True := eq_true (by omega); (try rw [show ((0 : Int)).toNat = 0 from rfl] at hx1169_0); (try rw [Addr.add_zero'] at hx1169_0); have HR1169_0 := Aside0.mk hi1169_0; have HC1169_0 := Aside0.mk hl1169_0; clear hi1169_0 hl1169_0; replace p1169 := eq_true p1169; replace q1169 := eq_true q1169) | ((with_reducible refine gate_callee (f := 111) rfl ?_); refine goesL_ (some 17) rfl rfl Try.func111 (by kernel_rfl) rfl #[.int .i64 (((rd_T58 y1161 0).f0).length : Int), .func (.func 112) #[] #[.pointer (some ad1165)]] rfl (by (try simp only [List.map_toArray, List.map_cons, List.map_nil]); first | done | rfl | (simp only [List.length_drop, List.length_take]; rfl)) ?_; (refine (impl_those__TreeSpace_1.calls k (((rd_T58 y1161 0).f0).length : Int) (some ad1165) co11 y1161 t1170 t1171 _ ?side1 ?side2 A7.out).mono ?_); (case side1 => repeat (first | exact (Kd.N_reads' HO1163.out).2.2 | (with_reducible refine Kd.C_alloc ?_ _) | (with_reducible refine Kd.C_drewN ?_ _) | (with_reducible refine Kd.C_drew ?_))); (case side2 => exact (Kd.N_reads' HO1163.out).2.1); rintro e w14 ⟨v1172, rfl, ho0, hb⟩; refine ⟨_, rfl, ?_⟩; have n0_ := Aside0.mk (Kd.V_elder' (by (with_reducible repeat (first | apply Kd.V_alloc | apply Kd.V_drewN | apply Kd.V_drew)); exact HO0_0.out) (Kd.R_base ho0) hb); have n1_ := Aside0.mk (Kd.N_elder' (by (with_reducible repeat (first | apply Kd.N_alloc | apply Kd.N_drewN | apply Kd.N_drew)); exact HO1163.out) (Kd.R_base ho0) hb); have n2_ := Aside0.mk (Kd.V_elder' (by (with_reducible repeat (first | apply Kd.V_alloc | apply Kd.V_drewN | apply Kd.V_drew)); exact HL1165_0.out) (Kd.R_base ho0) hb); have n3_ := Aside0.mk (Kd.V_elder' (by (with_reducible repeat (first | apply Kd.V_alloc | apply Kd.V_drewN | apply Kd.V_drew)); exact HL1167_0.out) (Kd.R_base ho0) hb); have n4_ := Aside0.mk (Kd.V_elder' (by (with_reducible repeat (first | apply Kd.V_alloc | apply Kd.V_drewN | apply Kd.V_drew)); exact HL1169_0.out) (Kd.R_base ho0) hb); have n5_ := Aside0.mk (Kd.R_lower (Kd.R_newM (M := fun k_ => (w.heap.size ≤ k_)) ho0 (below_size (by repeat (first | (with_reducible first | exact HB.out | apply below_alloc | apply pw_below_drewN | apply below_drew1 | refine below_set ?_ GE1164.out) | exact HB.out))) (fun k_ h_ => h_)) (below_size (by repeat (first | (with_reducible first | exact HB.out | apply below_alloc | apply pw_below_drewN | apply below_drew1 | refine below_set ?_ GE1164.out) | exact HB.out)))); have n6_ := Aside0.mk (blk_below (g := gb1164) (o := .cells #[.int .i64 0, .slice none 0 0] 28 (0, 0)) (by (with_reducible repeat (first | refine blk_drewN ?_ _ | refine blk_drew ?_ | refine blk_alloc ?_ _)); exact BK1164.out) hb); have n7_ := Aside0.mk (Kd.C_below (by repeat (first | (with_reducible exact HR1165_0.out) | (with_reducible refine Kd.C_alloc ?_ _) | (with_reducible refine Kd.C_drewN ?_ _) | (with_reducible refine Kd.C_drew ?_) | exact HR1165_0.out)) hb); have n8_ := Aside0.mk (Kd.C_below (by repeat (first | (with_reducible exact HR1167_0.out) | (with_reducible refine Kd.C_alloc ?_ _) | (with_reducible refine Kd.C_drewN ?_ _) | (with_reducible refine Kd.C_drew ?_) | exact HR1167_0.out)) hb); have n9_ := Aside0.mk (Kd.C_below (by repeat (first | (with_reducible exact HR1169_0.out) | (with_reducible refine Kd.C_alloc ?_ _) | (with_reducible refine Kd.C_drewN ?_ _) | (with_reducible refine Kd.C_drew ?_) | exact HR1169_0.out)) hb); have n10_ := Aside0.mk (below_step (by repeat (first | (with_reducible first | exact HB.out | apply below_alloc | apply pw_below_drewN | apply below_drew1 | refine below_set ?_ GE1164.out) | exact HB.out)) hb); clear HO0_0; clear HO1163; clear HL1165_0; clear HL1167_0; clear HL1169_0; clear BK1164; clear HR1165_0; clear HR1167_0; clear HR1169_0; clear HB; have HO0_0 := n0_; have HO1163 := n1_; have HL1165_0 := n2_; have HL1167_0 := n3_; have HL1169_0 := n4_; have HO1173 := n5_; have BK1164 := n6_; have HR1165_0 := n7_; have HR1167_0 := n8_; have HR1169_0 := n9_; have HB := n10_; clear n0_ n1_ n2_ n3_ n4_ n5_ n6_ n7_ n8_ n9_ n10_; (try clear hb); (try clear hb2); (try clear hk); (try clear hi); (try clear ho0); have hcz15_0 : w14.cell? ⟨gb1164, 0, none⟩ = some (.int .i64 0) := (blk_cell BK1164.out 0).trans rfl; have hcz15_1 : w14.cell? ⟨gb1164, 1, none⟩ = some (.slice none 0 0) := (blk_cell BK1164.out 1).trans rfl; have hfz15_0 := blk_frozen BK1164.out 0; have hfz15_1 := blk_frozen BK1164.out 1; obtain ⟨Ao16, co16, eo16⟩ := Kd.R_slice HO1173.out; subst eo16))
        refine bodyPost_ret (results_ct rfl _ _ gb1164 28 #[.int .i64 t1170, .slice Ao16 t1171.length co16] (0, 0) _ rfl (by (with_reducible repeat (first | refine blk_drewN ?_ _ | refine blk_drew ?_ | refine blk_alloc ?_ _)); refine blk_put (cs := #[.int .i64 t1170, .slice none 0 0]) ?_ 1 _ rfl; (with_reducible repeat (first | refine blk_drewN ?_ _ | refine blk_drew ?_ | refine blk_alloc ?_ _)); refine blk_put (cs := #[.int .i64 0, .slice none 0 0]) ?_ 0 _ rfl; (with_reducible repeat (first | refine blk_drewN ?_ _ | refine blk_drew ?_ | refine blk_alloc ?_ _)); exact BK1164.out) Try.underlying28 rfl (by kernel_rfl)) rfl ?_
        exact ⟨_, by first | rfl | (simp [errW_none, errW_some] <;> rfl) | (simp [*, errW_none, errW_some] <;> rfl), by (with_reducible repeat (first | apply Kd.R_alloc | apply Kd.R_drewN | apply Kd.R_drew)); exact Kd.R_mono (Kd.R_far (p := ⟨gb1164, 1, none⟩) (Kd.R_far (p := ⟨gb1164, 0, none⟩) (Kd.R_types HO1173.out BK1164.out (by decide)) (fun _ hk => hk.2) (.int .i64 t1170)) (fun _ hk => hk.2) (.slice Ao16 t1171.length co16)) (fun _ hk => hk.1.1), by repeat (first | (with_reducible first | exact HB.out | apply below_alloc | apply pw_below_drewN | apply below_drew1 | refine below_set ?_ GE1164.out) | exact HB.out)⟩
      · replace c6 := Bool.eq_false_iff.mpr c6
        subst c6
        have H1 : (some (0, ([] : List Int), false)) = some (r1, r2, r3) := by rw [if_neg (show ¬ (false = true) by decide)] at H; exact H
        clear H
        have H := H1
        clear H1
        simp only [Option.some.injEq, Prod.mk.injEq] at H
        obtain ⟨rfl, rfl, rfl⟩ := H
        have hmf_ : ∀ (fn : Fn) (first cap : Array Value) (w : World), (Instr.makeFunc fn first cap).run Try.prog w = .ok (.func fn first cap) w := fun _ _ _ _ => rfl
        go_enter Try.func54, Try.ntmps54
        go_wp2_with (first | ((with_reducible refine gate_dst (N := 1) rfl ?_); refine box_N k58 _ 58 ?hg (N' := 1) ?hd (xs := ([(⟨l0_0⟩ : S58)] : List (S58))) (inner := [.slice A0_0 l0_0.length c0_0]) (ok := (fun k_ => (P0_0_ k_ ∨ w.heap.size ≤ k_))) (okp := (fun k_ => (P0_0_ k_ ∨ w.heap.size ≤ k_))) ?hr ?hp (fun _ hk => hk) ((show ∀ k_, w.heap.size ≤ k_ → (fun k_ => (P0_0_ k_ ∨ w.heap.size ≤ k_)) k_ from fun k_ hk => (.inr (Nat.le_trans (below_size (by repeat (first | (with_reducible first | exact HB.out | apply below_alloc | apply pw_below_drewN | apply below_drew1) | exact HB.out))) hk))) _ (Nat.le_refl _)) (Below.refl _ _) (Nat.le_refl _) (by simp) ?_; (case hd => rfl); (case hg => rfl); (case hr => first | (go_simp; done) | (go_simp; rfl) | (simp [execOp, Instr.box, newVar, newRow, go_sem]; done) | (simp [execOp, Instr.box, newVar, newRow, go_sem]; rfl)); (case hp => exact (Reps.one (show Kd.FK k58 _ _ (⟨l0_0⟩ : S58) [.slice A0_0 l0_0.length c0_0] from (k58_mkF _ _ (⟨l0_0⟩ : S58) (Kd.V_reads' (Kd.V_mono (ok' := (fun k_ => (P0_0_ k_ ∨ w.heap.size ≤ k_))) (HO0_0.out) (fun k_ hk => hk))).2.1 (Kd.V_F (Kd.V_mono (ok' := (fun k_ => (P0_0_ k_ ∨ w.heap.size ≤ k_))) (HO0_0.out) (fun k_ hk => hk))))) (Reps.none _ _))); intro v1162 w17 ho18 hb hg_ hnew_; clear hg_ hnew_; (first | rw [← Ny1161.out] at ho18 | (simp only [Int.reduceToNat] at ho18; rw [← Ny1161.out] at ho18)); have n0_ := Aside0.mk (Kd.V_elder' (by (with_reducible repeat (first | apply Kd.V_alloc | apply Kd.V_drewN | apply Kd.V_drew)); exact HO0_0.out) (Kd.N_base ho18) hb); have n1_ := Aside0.mk (Kd.N_lower ho18 (below_size (by repeat (first | (with_reducible first | exact HB.out | apply below_alloc | apply pw_below_drewN | apply below_drew1) | exact HB.out)))); have n2_ := Aside0.mk (below_step (by repeat (first | (with_reducible first | exact HB.out | apply below_alloc | apply pw_below_drewN | apply below_drew1) | exact HB.out)) hb); clear HO0_0; clear HB; have HO0_0 := n0_; have HO1163 := n1_; have HB := n2_; clear n0_ n1_ n2_; clear hb ho18) | ((with_reducible refine gate_dst (N := 2) rfl ?_); refine box_event ?hg (N := 2) ?hd (cs := #[.int .i64 0, .slice none 0 0]) (t := 28) ?hr ?_; (case hd => rfl); (case hg => rfl); (case hr => first | (go_simp; done) | (go_simp; rfl)); intro gb1164 hg w19 hbox hb; have n0_ := Aside0.mk (Kd.V_below (Kd.V_elderB (by (with_reducible repeat (first | apply Kd.V_alloc | apply Kd.V_drewN | apply Kd.V_drew)); exact HO0_0.out) gb1164 (Nat.le_of_eq hg.symm)) hb); have n1_ := Aside0.mk (Kd.N_below (Kd.N_elderB (by (with_reducible repeat (first | apply Kd.N_alloc | apply Kd.N_drewN | apply Kd.N_drew)); exact HO1163.out) gb1164 (Nat.le_of_eq hg.symm)) hb); have n2_ := Aside0.mk (below_step (by repeat (first | (with_reducible first | exact HB.out | apply below_alloc | apply pw_below_drewN | apply below_drew1) | exact HB.out)) hb); have n3_ := Aside0.mk (hbox); have n4_ := Aside0.mk ((by rw [hg]; exact (below_size (by repeat (first | (with_reducible first | exact HB.out | apply below_alloc | apply pw_below_drewN | apply below_drew1) | exact HB.out))) : w.heap.size ≤ gb1164)); have n5_ := Aside0.mk ((by rw [hg]; exact (below_size (by repeat (first | (with_reducible first | exact HB.out | apply below_alloc | apply pw_below_drewN | apply below_drew1) | exact HB.out))) : w.heap.size ≤ gb1164)); clear HO0_0; clear HO1163; clear HB; have HO0_0 := n0_; have HO1163 := n1_; have HB := n2_; have BK1164 := n3_; have GW1164 := n4_; have GE1164 := n5_; clear n0_ n1_ n2_ n3_ n4_ n5_; clear hb hbox hg; obtain ⟨Ao20, co20, eo20⟩ := Kd.N_slice HO1163.out; subst eo20; (try simp only [asP_slice]); have p1165 : 0 ≤ (0 : Int) := (by omega); have q1165 : 0 < (y1161.length : Int) := of_decide_eq_true (by first | (with_reducible assumption) | assumption); obtain ⟨ad1165, A1165_0, c1165_0, e1165, hx1165_0, hl1165_0, hi1165_0⟩ := at_T58 (Kd.N_reads' HO1163.out).2.2 0 p1165 q1165; cases e1165; obtain ⟨ce1165, hce1165, hMe1165, hcc1165⟩ := Kd.N_get HO1163.out z58 0 p1165 (by first | exact q1165 | exact of_decide_eq_true (by first | (with_reducible assumption) | assumption) | (have e_ := (Kd.N_reads' HO1163.out).1; omega)); obtain ⟨ua1165_0, uc1165_0, rfl, ul1165_0, ge1165_0⟩ := k58_openF hMe1165; have hv1165_0 := hcc1165 0 _ rfl; rw [Nat.add_zero, show (k58).sz = 1 from rfl, Nat.mul_one] at hv1165_0; replace hv1165_0 := Option.some.inj (hv1165_0.symm.trans hx1165_0); injection hv1165_0 with hva_ hvn_ hvc_; rw [hva_] at ge1165_0; rw [hvc_] at ul1165_0; have HL1165_0 := Aside0.mk (show Kd.V (Kd.int .i64) 3 _ w.heap.size _ _ ((rd_T58 y1161 0).f0) from Kd.V_mk ul1165_0 ge1165_0); clear hva_ hvn_ hvc_ ge1165_0 ul1165_0; clear hcc1165 hce1165; have qi1165 : (0 < y1161.length) = True := eq_true (by omega); (try rw [show ((0 : Int)).toNat = 0 from rfl] at hx1165_0); (try rw [Addr.add_zero'] at hx1165_0); have HR1165_0 := Aside0.mk hi1165_0; have HC1165_0 := Aside0.mk hl1165_0; clear hi1165_0 hl1165_0; replace p1165 := eq_true p1165; replace q1165 := eq_true q1165) | ((with_reducible refine gate_callee (f := 98) rfl ?_); refine goesL_ (some 5) rfl rfl Try.func98 (by kernel_rfl) rfl #[.agg #[.slice A1165_0 ((rd_T58 y1161 0).f0).length c1165_0]] rfl (by (try simp only [List.map_toArray, List.map_cons, List.map_nil]); first | done | rfl | (simp only [List.length_drop, List.length_take]; rfl)) ?_; (with_reducible refine (impl_IsNet.calls k _ _ ((rd_T58 y1161 0).f0) true _ ?side1 ?side2 A3.out).mono ?_); (case side1 => repeat (first | exact (by repeat (first | (with_reducible exact HR1165_0.out) | (with_reducible refine Kd.C_alloc ?_ _) | (with_reducible refine Kd.C_drewN ?_ _) | (with_reducible refine Kd.C_drew ?_) | exact HR1165_0.out)) | (with_reducible refine Kd.C_alloc ?_ _) | (with_reducible refine Kd.C_drewN ?_ _) | (with_reducible refine Kd.C_drew ?_))); (case side2 => exact HC1165_0.out); rintro e w21 ⟨rfl, hb⟩; refine ⟨_, rfl, ?_⟩; have n0_ := Aside0.mk (Kd.V_below (by (with_reducible repeat (first | apply Kd.V_alloc | apply Kd.V_drewN | apply Kd.V_drew)); exact HO0_0.out) hb); have n1_ := Aside0.mk (Kd.N_below (by (with_reducible repeat (first | apply Kd.N_alloc | apply Kd.N_drewN | apply Kd.N_drew)); exact HO1163.out) hb); have n2_ := Aside0.mk (Kd.V_below (by (with_reducible repeat (first | apply Kd.V_alloc | apply Kd.V_drewN | apply Kd.V_drew)); exact HL1165_0.out) hb); have n3_ := Aside0.mk (blk_below (g := gb1164) (o := .cells #[.int .i64 0, .slice none 0 0] 28 (0, 0)) (by (with_reducible repeat (first | refine blk_drewN ?_ _ | refine blk_drew ?_ | refine blk_alloc ?_ _)); exact BK1164.out) hb); have n4_ := Aside0.mk (Kd.C_below (by repeat (first | (with_reducible exact HR1165_0.out) | (with_reducible refine Kd.C_alloc ?_ _) | (with_reducible refine Kd.C_drewN ?_ _) | (with_reducible refine Kd.C_drew ?_) | exact HR1165_0.out)) hb); have n5_ := Aside0.mk (below_step (by repeat (first | (with_reducible first | exact HB.out | apply below_alloc | apply pw_below_drewN | apply below_drew1 | refine below_set ?_ GE1164.out) | exact HB.out)) hb); clear HO0_0; clear HO1163; clear HL1165_0; clear BK1164; clear HR1165_0; clear HB; have HO0_0 := n0_; have HO1163 := n1_; have HL1165_0 := n2_; have BK1164 := n3_; have HR1165_0 := n4_; have HB := n5_; clear n0_ n1_ n2_ n3_ n4_ n5_; (try clear hb); (try clear hb2); (try clear hk); (try clear hi); have p1167 : 0 ≤ (0 : Int) := (by omega); have q1167 : 0 < (y1161.length : Int) := of_decide_eq_true (by first | (with_reducible assumption) | assumption); obtain ⟨ad1167, A1167_0, c1167_0, e1167, hx1167_0, hl1167_0, hi1167_0⟩ := at_T58 (Kd.N_reads' HO1163.out).2.2 0 p1167 q1167; obtain rfl : ad1165 = ad1167 := (by injection e1167); obtain ⟨ce1167, hce1167, hMe1167, hcc1167⟩ := Kd.N_get HO1163.out z58 0 p1167 (by first | exact q1167 | exact of_decide_eq_true (by first | (with_reducible assumption) | assumption) | (have e_ := (Kd.N_reads' HO1163.out).1; omega)); obtain ⟨ua1167_0, uc1167_0, rfl, ul1167_0, ge1167_0⟩ := k58_openF hMe1167; have hv1167_0 := hcc1167 0 _ rfl; rw [Nat.add_zero, show (k58).sz = 1 from rfl, Nat.mul_one] at hv1167_0; replace hv1167_0 := Option.some.inj (hv1167_0.symm.trans hx1167_0); injection hv1167_0 with hva_ hvn_ hvc_; rw [hva_] at ge1167_0; rw [hvc_] at ul1167_0; have HL1167_0 := Aside0.mk (show Kd.V (Kd.int .i64) 3 _ w.heap.size _ _ ((rd_T58 y1161 0).f0) from Kd.V_mk ul1167_0 ge1167_0); clear hva_ hvn_ hvc_ ge1167_0 ul1167_0; clear hcc1167 hce1167; have qi1167 : (0 < y1161.length) = True := eq_true (by omega); (try rw [show ((0 : Int)).toNat = 0 from rfl] at hx1167_0); (try rw [Addr.add_zero'] at hx1167_0); have HR1167_0 := Aside0.mk hi1167_0; have HC1167_0 := Aside0.mk hl1167_0; clear hi1167_0 hl1167_0; replace p1167 := eq_true p1167; replace q1167 := eq_true q1167) | (go_at_call 110; (with_reducible refine (impl_Net_isTree.calls k _ _ ((rd_T58 y1161 0).f0) false _ ?side1 ?side2 A5.out).mono ?_); (case side1 => repeat (first | exact (by repeat (first | (with_reducible exact HR1167_0.out) | (with_reducible refine Kd.C_alloc ?_ _) | (with_reducible refine Kd.C_drewN ?_ _) | (with_reducible refine Kd.C_drew ?_) | exact HR1167_0.out)) | (with_reducible refine Kd.C_alloc ?_ _) | (with_reducible refine Kd.C_drewN ?_ _) | (with_reducible refine Kd.C_drew ?_))); (case side2 => exact HC1167_0.out); rintro e w22 ⟨rfl, hb⟩; have n0_ := Aside0.mk (Kd.V_below (by (with_reducible repeat (first | apply Kd.V_alloc | apply Kd.V_drewN | apply Kd.V_drew)); exact HO0_0.out) hb); have n1_ := Aside0.mk (Kd.N_below (by (with_reducible repeat (first | apply Kd.N_alloc | apply Kd.N_drewN | apply Kd.N_drew)); exact HO1163.out) hb); have n2_ := Aside0.mk (Kd.V_below (by (with_reducible repeat (first | apply Kd.V_alloc | apply Kd.V_drewN | apply Kd.V_drew)); exact HL1165_0.out) hb); have n3_ := Aside0.mk (Kd.V_below (by (with_reducible repeat (first | apply Kd.V_alloc | apply Kd.V_drewN | apply Kd.V_drew)); exact HL1167_0.out) hb); have n4_ := Aside0.mk (blk_below (g := gb1164) (o := .cells #[.int .i64 0, .slice none 0 0] 28 (0, 0)) (by (with_reducible repeat (first | refine blk_drewN ?_ _ | refine blk_drew ?_ | refine blk_alloc ?_ _)); exact BK1164.out) hb); have n5_ := Aside0.mk (Kd.C_below (by repeat (first | (with_reducible exact HR1165_0.out) | (with_reducible refine Kd.C_alloc ?_ _) | (with_reducible refine Kd.C_drewN ?_ _) | (with_reducible refine Kd.C_drew ?_) | exact HR1165_0.out)) hb); have n6_ := Aside0.mk (Kd.C_below (by repeat (first | (with_reducible exact HR1167_0.out) | (with_reducible refine Kd.C_alloc ?_ _) | (with_reducible refine Kd.C_drewN ?_ _) | (with_reducible refine Kd.C_drew ?_) | exact HR1167_0.out)) hb); have n7_ := Aside0.mk (below_step (by repeat (first | (with_reducible first | exact HB.out | apply below_alloc | apply pw_below_drewN | apply below_drew1 | refine below_set ?_ GE1164.out) | exact HB.out)) hb); clear HO0_0; clear HO1163; clear HL1165_0; clear HL1167_0; clear BK1164; clear HR1165_0; clear HR1167_0; clear HB; have HO0_0 := n0_; have HO1163 := n1_; have HL1165_0 := n2_; have HL1167_0 := n3_; have BK1164 := n4_; have HR1165_0 := n5_; have HR1167_0 := n6_; have HB := n7_; clear n0_ n1_ n2_ n3_ n4_ n5_ n6_ n7_; (try clear hb); (try clear hb2); (try clear hk); (try clear hi); have hcz23_0 : w22.cell? ⟨gb1164, 0, none⟩ = some (.int .i64 0) := (blk_cell BK1164.out 0).trans rfl; have hcz23_1 : w22.cell? ⟨gb1164, 1, none⟩ = some (.slice none 0 0) := (blk_cell BK1164.out 1).trans rfl; have hfz23_0 := blk_frozen BK1164.out 0; have hfz23_1 := blk_frozen BK1164.out 1))
        refine bodyPost_ret (results_ct rfl _ _ gb1164 28 #[.int .i64 0, .slice none 0 0] (0, 0) _ rfl (by (with_reducible repeat (first | refine blk_drewN ?_ _ | refine blk_drew ?_ | refine blk_alloc ?_ _)); refine blk_put (cs := #[.int .i64 0, .slice none 0 0]) ?_ 1 _ rfl; (with_reducible repeat (first | refine blk_drewN ?_ _ | refine blk_drew ?_ | refine blk_alloc ?_ _)); refine blk_put (cs := #[.int .i64 0, .slice none 0 0]) ?_ 0 _ rfl; (with_reducible repeat (first | refine blk_drewN ?_ _ | refine blk_drew ?_ | refine blk_alloc ?_ _)); exact BK1164.out) Try.underlying28 rfl (by kernel_rfl)) rfl ?_
        exact ⟨_, by first | rfl | (simp [errW_none, errW_some] <;> rfl) | (simp [*, errW_none, errW_some] <;> rfl), by first | exact Kd.R_nil _ _ _ _ _ | exact Kd.N_nil _ _ _ _ _ | exact Kd.V_nil _ _ _ _ _ | exact Kd.Q_nil _ _ _ _ _ | exact Kd.S_nil _ _ _ _ _, by repeat (first | (with_reducible first | exact HB.out | apply below_alloc | apply pw_below_drewN | apply below_drew1 | refine below_set ?_ GE1164.out) | exact HB.out)⟩
    · replace c4 := Bool.eq_false_iff.mpr c4
      subst c4
      have H1 : (some (0, ([] : List Int), false)) = some (r1, r2, r3) := by rw [if_neg (show ¬ (false = true) by decide)] at H; exact H
      clear H
      have H := H1
      clear H1
      simp only [Option.some.injEq, Prod.mk.injEq] at H
      obtain ⟨rfl, rfl, rfl⟩ := H
      have hmf_ : ∀ (fn : Fn) (first cap : Array Value) (w : World), (Instr.makeFunc fn first cap).run Try.prog w = .ok (.func fn first cap) w := fun _ _ _ _ => rfl
      go_enter Try.func54, Try.ntmps54
      go_wp2_with (first | ((with_reducible refine gate_dst (N := 1) rfl ?_); refine box_N k58 _ 58 ?hg (N' := 1) ?hd (xs := ([(⟨l0_0⟩ : S58)] : List (S58))) (inner := [.slice A0_0 l0_0.length c0_0]) (ok := (fun k_ => (P0_0_ k_ ∨ w.heap.size ≤ k_))) (okp := (fun k_ => (P0_0_ k_ ∨ w.heap.size ≤ k_))) ?hr ?hp (fun _ hk => hk) ((show ∀ k_, w.heap.size ≤ k_ → (fun k_ => (P0_0_ k_ ∨ w.heap.size ≤ k_)) k_ from fun k_ hk => (.inr (Nat.le_trans (below_size (by repeat (first | (with_reducible first | exact HB.out | apply below_alloc | apply pw_below_drewN | apply below_drew1) | exact HB.out))) hk))) _ (Nat.le_refl _)) (Below.refl _ _) (Nat.le_refl _) (by simp) ?_; (case hd => rfl); (case hg => rfl); (case hr => first | (go_simp; done) | (go_simp; rfl) | (simp [execOp, Instr.box, newVar, newRow, go_sem]; done) | (simp [execOp, Instr.box, newVar, newRow, go_sem]; rfl)); (case hp => exact (Reps.one (show Kd.FK k58 _ _ (⟨l0_0⟩ : S58) [.slice A0_0 l0_0.length c0_0] from (k58_mkF _ _ (⟨l0_0⟩ : S58) (Kd.V_reads' (Kd.V_mono (ok' := (fun k_ => (P0_0_ k_ ∨ w.heap.size ≤ k_))) (HO0_0.out) (fun k_ hk => hk))).2.1 (Kd.V_F (Kd.V_mono (ok' := (fun k_ => (P0_0_ k_ ∨ w.heap.size ≤ k_))) (HO0_0.out) (fun k_ hk => hk))))) (Reps.none _ _))); intro v1162 w24 ho25 hb hg_ hnew_; clear hg_ hnew_; (first | rw [← Ny1161.out] at ho25 | (simp only [Int.reduceToNat] at ho25; rw [← Ny1161.out] at ho25)); have n0_ := Aside0.mk (Kd.V_elder' (by (with_reducible repeat (first | apply Kd.V_alloc | apply Kd.V_drewN | apply Kd.V_drew)); exact HO0_0.out) (Kd.N_base ho25) hb); have n1_ := Aside0.mk (Kd.N_lower ho25 (below_size (by repeat (first | (with_reducible first | exact HB.out | apply below_alloc | apply pw_below_drewN | apply below_drew1) | exact HB.out)))); have n2_ := Aside0.mk (below_step (by repeat (first | (with_reducible first | exact HB.out | apply below_alloc | apply pw_below_drewN | apply below_drew1) | exact HB.out)) hb); clear HO0_0; clear HB; have HO0_0 := n0_; have HO1163 := n1_; have HB := n2_; clear n0_ n1_ n2_; clear hb ho25) | ((with_reducible refine gate_dst (N := 2) rfl ?_); refine box_event ?hg (N := 2) ?hd (cs := #[.int .i64 0, .slice none 0 0]) (t := 28) ?hr ?_; (case hd => rfl); (case hg => rfl); (case hr => first | (go_simp; done) | (go_simp; rfl)); intro gb1164 hg w26 hbox hb; have n0_ := Aside0.mk (Kd.V_below (Kd.V_elderB (by (with_reducible repeat (first | apply Kd.V_alloc | apply Kd.V_drewN | apply Kd.V_drew)); exact HO0_0.out) gb1164 (Nat.le_of_eq hg.symm)) hb); have n1_ := Aside0.mk (Kd.N_below (Kd.N_elderB (by (with_reducible repeat (first | apply Kd.N_alloc | apply Kd.N_drewN | apply Kd.N_drew)); exact HO1163.out) gb1164 (Nat.le_of_eq hg.symm)) hb); have n2_ := Aside0.mk (below_step (by repeat (first | (with_reducible first | exact HB.out | apply below_alloc | apply pw_below_drewN | apply below_drew1) | exact HB.out)) hb); have n3_ := Aside0.mk (hbox); have n4_ := Aside0.mk ((by rw [hg]; exact (below_size (by repeat (first | (with_reducible first | exact HB.out | apply below_alloc | apply pw_below_drewN | apply below_drew1) | exact HB.out))) : w.heap.size ≤ gb1164)); have n5_ := Aside0.mk ((by rw [hg]; exact (below_size (by repeat (first | (with_reducible first | exact HB.out | apply below_alloc | apply pw_below_drewN | apply below_drew1) | exact HB.out))) : w.heap.size ≤ gb1164)); clear HO0_0; clear HO1163; clear HB; have HO0_0 := n0_; have HO1163 := n1_; have HB := n2_; have BK1164 := n3_; have GW1164 := n4_; have GE1164 := n5_; clear n0_ n1_ n2_ n3_ n4_ n5_; clear hb hbox hg; obtain ⟨Ao27, co27, eo27⟩ := Kd.N_slice HO1163.out; subst eo27; (try simp only [asP_slice]); have p1165 : 0 ≤ (0 : Int) := (by omega); have q1165 : 0 < (y1161.length : Int) := of_decide_eq_true (by first | (with_reducible assumption) | assumption); obtain ⟨ad1165, A1165_0, c1165_0, e1165, hx1165_0, hl1165_0, hi1165_0⟩ := at_T58 (Kd.N_reads' HO1163.out).2.2 0 p1165 q1165; cases e1165; obtain ⟨ce1165, hce1165, hMe1165, hcc1165⟩ := Kd.N_get HO1163.out z58 0 p1165 (by first | exact q1165 | exact of_decide_eq_true (by first | (with_reducible assumption) | assumption) | (have e_ := (Kd.N_reads' HO1163.out).1; omega)); obtain ⟨ua1165_0, uc1165_0, rfl, ul1165_0, ge1165_0⟩ := k58_openF hMe1165; have hv1165_0 := hcc1165 0 _ rfl; rw [Nat.add_zero, show (k58).sz = 1 from rfl, Nat.mul_one] at hv1165_0; replace hv1165_0 := Option.some.inj (hv1165_0.symm.trans hx1165_0); injection hv1165_0 with hva_ hvn_ hvc_; rw [hva_] at ge1165_0; rw [hvc_] at ul1165_0; have HL1165_0 := Aside0.mk (show Kd.V (Kd.int .i64) 3 _ w.heap.size _ _ ((rd_T58 y1161 0).f0) from Kd.V_mk ul1165_0 ge1165_0); clear hva_ hvn_ hvc_ ge1165_0 ul1165_0; clear hcc1165 hce1165; have qi1165 : (0 < y1161.length) = True := eq_true (by omega); (try rw [show ((0 : Int)).toNat = 0 from rfl] at hx1165_0); (try rw [Addr.add_zero'] at hx1165_0); have HR1165_0 := Aside0.mk hi1165_0; have HC1165_0 := Aside0.mk hl1165_0; clear hi1165_0 hl1165_0; replace p1165 := eq_true p1165; replace q1165 := eq_true q1165) | ((with_reducible refine gate_callee (f := 98) rfl ?_); refine goesL_ (some 5) rfl rfl Try.func98 (by kernel_rfl) rfl #[.agg #[.slice A1165_0 ((rd_T58 y1161 0).f0).length c1165_0]] rfl (by (try simp only [List.map_toArray, List.map_cons, List.map_nil]); first | done | rfl | (simp only [List.length_drop, List.length_take]; rfl)) ?_; (with_reducible refine (impl_IsNet.calls k _ _ ((rd_T58 y1161 0).f0) false _ ?side1 ?side2 A3.out).mono ?_); (case side1 => repeat (first | exact (by repeat (first | (with_reducible exact HR1165_0.out) | (with_reducible refine Kd.C_alloc ?_ _) | (with_reducible refine Kd.C_drewN ?_ _) | (with_reducible refine Kd.C_drew ?_) | exact HR1165_0.out)) | (with_reducible refine Kd.C_alloc ?_ _) | (with_reducible refine Kd.C_drewN ?_ _) | (with_reducible refine Kd.C_drew ?_))); (case side2 => exact HC1165_0.out); rintro e w28 ⟨rfl, hb⟩; refine ⟨_, rfl, ?_⟩; have n0_ := Aside0.mk (Kd.V_below (by (with_reducible repeat (first | apply Kd.V_alloc | apply Kd.V_drewN | apply Kd.V_drew)); exact HO0_0.out) hb); have n1_ := Aside0.mk (Kd.N_below (by (with_reducible repeat (first | apply Kd.N_alloc | apply Kd.N_drewN | apply Kd.N_drew)); exact HO1163.out) hb); have n2_ := Aside0.mk (Kd.V_below (by (with_reducible repeat (first | apply Kd.V_alloc | apply Kd.V_drewN | apply Kd.V_drew)); exact HL1165_0.out) hb); have n3_ := Aside0.mk (blk_below (g := gb1164) (o := .cells #[.int .i64 0, .slice none 0 0] 28 (0, 0)) (by (with_reducible repeat (first | refine blk_drewN ?_ _ | refine blk_drew ?_ | refine blk_alloc ?_ _)); exact BK1164.out) hb); have n4_ := Aside0.mk (Kd.C_below (by repeat (first | (with_reducible exact HR1165_0.out) | (with_reducible refine Kd.C_alloc ?_ _) | (with_reducible refine Kd.C_drewN ?_ _) | (with_reducible refine Kd.C_drew ?_) | exact HR1165_0.out)) hb); have n5_ := Aside0.mk (below_step (by repeat (first | (with_reducible first | exact HB.out | apply below_alloc | apply pw_below_drewN | apply below_drew1 | refine below_set ?_ GE1164.out) | exact HB.out)) hb); clear HO0_0; clear HO1163; clear HL1165_0; clear BK1164; clear HR1165_0; clear HB; have HO0_0 := n0_; have HO1163 := n1_; have HL1165_0 := n2_; have BK1164 := n3_; have HR1165_0 := n4_; have HB := n5_; clear n0_ n1_ n2_ n3_ n4_ n5_; (try clear hb); (try clear hb2); (try clear hk); (try clear hi); have hcz29_0 : w28.cell? ⟨gb1164, 0, none⟩ = some (.int .i64 0) := (blk_cell BK1164.out 0).trans rfl; have hcz29_1 : w28.cell? ⟨gb1164, 1, none⟩ = some (.slice none 0 0) := (blk_cell BK1164.out 1).trans rfl; have hfz29_0 := blk_frozen BK1164.out 0; have hfz29_1 := blk_frozen BK1164.out 1))
      refine bodyPost_ret (results_ct rfl _ _ gb1164 28 #[.int .i64 0, .slice none 0 0] (0, 0) _ rfl (by (with_reducible repeat (first | refine blk_drewN ?_ _ | refine blk_drew ?_ | refine blk_alloc ?_ _)); refine blk_put (cs := #[.int .i64 0, .slice none 0 0]) ?_ 1 _ rfl; (with_reducible repeat (first | refine blk_drewN ?_ _ | refine blk_drew ?_ | refine blk_alloc ?_ _)); refine blk_put (cs := #[.int .i64 0, .slice none 0 0]) ?_ 0 _ rfl; (with_reducible repeat (first | refine blk_drewN ?_ _ | refine blk_drew ?_ | refine blk_alloc ?_ _)); exact BK1164.out) Try.underlying28 rfl (by kernel_rfl)) rfl ?_
      exact ⟨_, by first | rfl | (simp [errW_none, errW_some] <;> rfl) | (simp [*, errW_none, errW_some] <;> rfl), by first | exact Kd.R_nil _ _ _ _ _ | exact Kd.N_nil _ _ _ _ _ | exact Kd.V_nil _ _ _ _ _ | exact Kd.Q_nil _ _ _ _ _ | exact Kd.S_nil _ _ _ _ _, by repeat (first | (with_reducible first | exact HB.out | apply below_alloc | apply pw_below_drewN | apply below_drew1 | refine below_set ?_ GE1164.out) | exact HB.out)⟩
  · rw [if_neg c2] at H
    exact absurd H (by simp)

/-! ### laws_FnExactTreeSpace: function 13 -/
mutual
def laws_FnExactTreeSpace.j0 : Nat → Bool → Bool → Bool → List Int → Int → List Int → List Int → Int → List Int → Option (Bool)
  | 0, _, _, _, _, _, _, _, _, _ => none
  | k + 1, x5, x8, x40, x1175000, x1185000, x1185001, x1189000, x1195000, x1195001 => if x40 = true then (some false) else ((laws_toNet.f k x1175000).bind fun t1196 => ((laws_eqNet.f k x1189000 t1196).bind fun t1199 => (if t1199 = true then ((laws_markNet.f k x1189000 1).bind fun bt1200 => (if bt1200.1 < 0 then (laws_FnExactTreeSpace.j1 k x5 true x1175000 x1185000 x1185001 x1195000 x1195001) else ((laws_eqSpace.f k x1195000 x1195001 x1185000 x1185001).bind fun t1202 => (if t1202 = true then (laws_FnExactTreeSpace.j1 k x5 (x8 != x5) x1175000 x1185000 x1185001 x1195000 x1195001) else (laws_FnExactTreeSpace.j1 k x5 true x1175000 x1185000 x1185001 x1195000 x1195001))))) else (some false))))
def laws_FnExactTreeSpace.j1 : Nat → Bool → Bool → List Int → Int → List Int → Int → List Int → Option (Bool)
  | 0, _, _, _, _, _, _, _ => none
  | k + 1, x5, x61, x1175000, x1185000, x1185001, x1195000, x1195001 => if x61 = true then (some false) else ((laws_markSpace.f k x1195000 x1195001 1).bind fun bt1203 => ((laws_heldSpace.f k x1195000 bt1203.2 1).bind fun t1205 => (if t1205 < 0 then (some false) else (if t1205 = bt1203.1 then ((laws_toNet.f k x1175000).bind fun t1206 => ((impl_TreeSpace.f k t1206).bind fun bt1209 => ((laws_eqSpace.f k bt1209.1 bt1209.2.1 x1185000 x1185001).bind fun t1215 => (if t1215 = true then (laws_FnExactTreeSpace.j2 k bt1203.1 (bt1209.2.2 != x5) x1195000 bt1203.2) else (laws_FnExactTreeSpace.j2 k bt1203.1 true x1195000 bt1203.2))))) else (some false)))))
def laws_FnExactTreeSpace.j2 : Nat → Int → Bool → Int → List Int → Option (Bool)
  | 0, _, _, _, _ => none
  | k + 1, x10, x87, x1195000, x1195001 => if x87 = true then (some false) else ((laws_heldSpace.f k x1195000 x1195001 1).bind fun t1216 => (if t1216 < 0 then (some false) else (if t1216 = x10 then (some true) else (some false))))
end
def laws_FnExactTreeSpace.f (k : Nat) (l0_0 : List Int) : Option (Bool) := (laws_szNet.f l0_0 1048576).bind fun t1175 => (if t1175 < 0 then (some true) else ((laws_toNet.f k l0_0).bind fun t1176 => ((spec_TreeSpace.f k t1176).bind fun bt1179 => ((laws_toNet.f k l0_0).bind fun t1185 => ((impl_TreeSpace.f k t1185).bind fun bt1189 => ((laws_eqSpace.f k bt1189.1 bt1189.2.1 bt1179.1 bt1179.2.1).bind fun t1195 => (if t1195 = true then (laws_FnExactTreeSpace.j0 k bt1179.2.2 bt1189.2.2 (bt1189.2.2 != bt1179.2.2) l0_0 bt1179.1 bt1179.2.1 t1185 bt1189.1 bt1189.2.1) else (laws_FnExactTreeSpace.j0 k bt1179.2.2 bt1189.2.2 true l0_0 bt1179.1 bt1179.2.1 t1185 bt1189.1 bt1189.2.1))))))))
theorem laws_FnExactTreeSpace.mono_l : ∀ k, (∀ y0 y1 y2 y3 y4 y5 y6 y7 y8, LeO (laws_FnExactTreeSpace.j0 k y0 y1 y2 y3 y4 y5 y6 y7 y8) (laws_FnExactTreeSpace.j0 (k + 1) y0 y1 y2 y3 y4 y5 y6 y7 y8)) ∧ (∀ y0 y1 y2 y3 y4 y5 y6, LeO (laws_FnExactTreeSpace.j1 k y0 y1 y2 y3 y4 y5 y6) (laws_FnExactTreeSpace.j1 (k + 1) y0 y1 y2 y3 y4 y5 y6)) ∧ (∀ y0 y1 y2 y3, LeO (laws_FnExactTreeSpace.j2 k y0 y1 y2 y3) (laws_FnExactTreeSpace.j2 (k + 1) y0 y1 y2 y3))
  | 0 => ⟨fun _ _ _ _ _ _ _ _ _ r h => by simp [laws_FnExactTreeSpace.j0] at h, fun _ _ _ _ _ _ _ r h => by simp [laws_FnExactTreeSpace.j1] at h, fun _ _ _ _ r h => by simp [laws_FnExactTreeSpace.j2] at h⟩
  | k + 1 => by
    obtain ⟨ih0, ih1, ih2⟩ := laws_FnExactTreeSpace.mono_l k
    refine ⟨?_, ?_, ?_⟩
    · intro y0 y1 y2 y3 y4 y5 y6 y7 y8
      unfold laws_FnExactTreeSpace.j0
      repeat' first
      | (with_reducible exact ih0 _ _ _ _ _ _ _ _ _)
      | (with_reducible exact ih1 _ _ _ _ _ _ _)
      | (with_reducible exact ih2 _ _ _ _)
      | (with_reducible exact impl_TreeSpace.mono _ _)
      | (with_reducible exact laws_eqNet.mono _ _ _)
      | (with_reducible exact laws_eqSpace.mono _ _ _ _ _)
      | (with_reducible exact laws_heldSpace.mono _ _ _ _)
      | (with_reducible exact laws_markNet.mono _ _ _)
      | (with_reducible exact laws_markSpace.mono _ _ _ _)
      | (with_reducible exact laws_toNet.mono _ _)
      | (with_reducible exact spec_TreeSpace.mono _ _)
      | (with_reducible exact LeO.refl _)
      | (with_reducible exact LeO.none _)
      | (with_reducible refine LeO.ite ?_ ?_)
      | (with_reducible refine LeO.bind ?_ (fun _ => ?_))
      | exact ih0 _ _ _ _ _ _ _ _ _
      | exact ih1 _ _ _ _ _ _ _
      | exact ih2 _ _ _ _
      | exact impl_TreeSpace.mono _ _
      | exact laws_eqNet.mono _ _ _
      | exact laws_eqSpace.mono _ _ _ _ _
      | exact laws_heldSpace.mono _ _ _ _
      | exact laws_markNet.mono _ _ _
      | exact laws_markSpace.mono _ _ _ _
      | exact laws_toNet.mono _ _
      | exact spec_TreeSpace.mono _ _
      | exact LeO.none _
      | refine LeO.ite ?_ ?_
      | refine LeO.bind ?_ (fun _ => ?_)
    · intro y0 y1 y2 y3 y4 y5 y6
      unfold laws_FnExactTreeSpace.j1
      repeat' first
      | (with_reducible exact ih0 _ _ _ _ _ _ _ _ _)
      | (with_reducible exact ih1 _ _ _ _ _ _ _)
      | (with_reducible exact ih2 _ _ _ _)
      | (with_reducible exact impl_TreeSpace.mono _ _)
      | (with_reducible exact laws_eqNet.mono _ _ _)
      | (with_reducible exact laws_eqSpace.mono _ _ _ _ _)
      | (with_reducible exact laws_heldSpace.mono _ _ _ _)
      | (with_reducible exact laws_markNet.mono _ _ _)
      | (with_reducible exact laws_markSpace.mono _ _ _ _)
      | (with_reducible exact laws_toNet.mono _ _)
      | (with_reducible exact spec_TreeSpace.mono _ _)
      | (with_reducible exact LeO.refl _)
      | (with_reducible exact LeO.none _)
      | (with_reducible refine LeO.ite ?_ ?_)
      | (with_reducible refine LeO.bind ?_ (fun _ => ?_))
      | exact ih0 _ _ _ _ _ _ _ _ _
      | exact ih1 _ _ _ _ _ _ _
      | exact ih2 _ _ _ _
      | exact impl_TreeSpace.mono _ _
      | exact laws_eqNet.mono _ _ _
      | exact laws_eqSpace.mono _ _ _ _ _
      | exact laws_heldSpace.mono _ _ _ _
      | exact laws_markNet.mono _ _ _
      | exact laws_markSpace.mono _ _ _ _
      | exact laws_toNet.mono _ _
      | exact spec_TreeSpace.mono _ _
      | exact LeO.none _
      | refine LeO.ite ?_ ?_
      | refine LeO.bind ?_ (fun _ => ?_)
    · intro y0 y1 y2 y3
      unfold laws_FnExactTreeSpace.j2
      repeat' first
      | (with_reducible exact ih0 _ _ _ _ _ _ _ _ _)
      | (with_reducible exact ih1 _ _ _ _ _ _ _)
      | (with_reducible exact ih2 _ _ _ _)
      | (with_reducible exact impl_TreeSpace.mono _ _)
      | (with_reducible exact laws_eqNet.mono _ _ _)
      | (with_reducible exact laws_eqSpace.mono _ _ _ _ _)
      | (with_reducible exact laws_heldSpace.mono _ _ _ _)
      | (with_reducible exact laws_markNet.mono _ _ _)
      | (with_reducible exact laws_markSpace.mono _ _ _ _)
      | (with_reducible exact laws_toNet.mono _ _)
      | (with_reducible exact spec_TreeSpace.mono _ _)
      | (with_reducible exact LeO.refl _)
      | (with_reducible exact LeO.none _)
      | (with_reducible refine LeO.ite ?_ ?_)
      | (with_reducible refine LeO.bind ?_ (fun _ => ?_))
      | exact ih0 _ _ _ _ _ _ _ _ _
      | exact ih1 _ _ _ _ _ _ _
      | exact ih2 _ _ _ _
      | exact impl_TreeSpace.mono _ _
      | exact laws_eqNet.mono _ _ _
      | exact laws_eqSpace.mono _ _ _ _ _
      | exact laws_heldSpace.mono _ _ _ _
      | exact laws_markNet.mono _ _ _
      | exact laws_markSpace.mono _ _ _ _
      | exact laws_toNet.mono _ _
      | exact spec_TreeSpace.mono _ _
      | exact LeO.none _
      | refine LeO.ite ?_ ?_
      | refine LeO.bind ?_ (fun _ => ?_)
theorem laws_FnExactTreeSpace.mono : ∀ a0 k, LeO (laws_FnExactTreeSpace.f k a0) (laws_FnExactTreeSpace.f (k + 1) a0) := by
  intro a0 k
  obtain ⟨ih0, ih1, ih2⟩ := laws_FnExactTreeSpace.mono_l k
  unfold laws_FnExactTreeSpace.f
  repeat' first
      | (with_reducible exact ih0 _ _ _ _ _ _ _ _ _)
      | (with_reducible exact ih1 _ _ _ _ _ _ _)
      | (with_reducible exact ih2 _ _ _ _)
      | (with_reducible exact impl_TreeSpace.mono _ _)
      | (with_reducible exact laws_eqNet.mono _ _ _)
      | (with_reducible exact laws_eqSpace.mono _ _ _ _ _)
      | (with_reducible exact laws_heldSpace.mono _ _ _ _)
      | (with_reducible exact laws_markNet.mono _ _ _)
      | (with_reducible exact laws_markSpace.mono _ _ _ _)
      | (with_reducible exact laws_toNet.mono _ _)
      | (with_reducible exact spec_TreeSpace.mono _ _)
      | (with_reducible exact LeO.refl _)
      | (with_reducible exact LeO.none _)
      | (with_reducible refine LeO.ite ?_ ?_)
      | (with_reducible refine LeO.bind ?_ (fun _ => ?_))
      | exact ih0 _ _ _ _ _ _ _ _ _
      | exact ih1 _ _ _ _ _ _ _
      | exact ih2 _ _ _ _
      | exact impl_TreeSpace.mono _ _
      | exact laws_eqNet.mono _ _ _
      | exact laws_eqSpace.mono _ _ _ _ _
      | exact laws_heldSpace.mono _ _ _ _
      | exact laws_markNet.mono _ _ _
      | exact laws_markSpace.mono _ _ _ _
      | exact laws_toNet.mono _ _
      | exact spec_TreeSpace.mono _ _
      | exact LeO.none _
      | refine LeO.ite ?_ ?_
      | refine LeO.bind ?_ (fun _ => ?_)
set_option maxHeartbeats 8000000 in
set_option maxRecDepth 100000 in
theorem laws_FnExactTreeSpace.calls (k : Nat) (A0_0 : Option Addr) (c0_0 : Nat) (l0_0 : List Int) (r : Bool) (w : World) (hr0_0 : Kd.C (Kd.int .i64) w A0_0 l0_0.length l0_0) (hc0_0 : l0_0.length ≤ c0_0) (h : laws_FnExactTreeSpace.f k l0_0 = some r) :
    Calls Try.prog 13 #[.agg #[.slice A0_0 l0_0.length c0_0]] w fun e w' => e = .returned (.bool r) ∧ Below w.heap.size w w' := by
  have hu55 := Try.underlying55
  have hu28 := Try.underlying28
  have hu58 := Try.underlying58
  have HR0_0 := Aside0.mk hr0_0
  have HC0_0 := Aside0.mk hc0_0
  clear hr0_0 hc0_0
  have HB := Aside0.mk (Below.refl w.heap.size w)
  have H : ((laws_szNet.f l0_0 1048576).bind fun t1175 => (if t1175 < 0 then (some true) else ((laws_toNet.f k l0_0).bind fun t1176 => ((spec_TreeSpace.f k t1176).bind fun bt1179 => ((laws_toNet.f k l0_0).bind fun t1185 => ((impl_TreeSpace.f k t1185).bind fun bt1189 => ((laws_eqSpace.f k bt1189.1 bt1189.2.1 bt1179.1 bt1179.2.1).bind fun t1195 => (if t1195 = true then (laws_FnExactTreeSpace.j0 k bt1179.2.2 bt1189.2.2 (bt1189.2.2 != bt1179.2.2) l0_0 bt1179.1 bt1179.2.1 t1185 bt1189.1 bt1189.2.1) else (laws_FnExactTreeSpace.j0 k bt1179.2.2 bt1189.2.2 true l0_0 bt1179.1 bt1179.2.1 t1185 bt1189.1 bt1189.2.1))))))))) = some r := h
  clear h
  replace H := Option.bind_eq_some_iff.mp H
  obtain ⟨t1175, A20, H⟩ := H
  replace H : (if t1175 < 0 then (some true) else ((laws_toNet.f k l0_0).bind fun t1176 => ((spec_TreeSpace.f k t1176).bind fun bt1179 => ((laws_toNet.f k l0_0).bind fun t1185 => ((impl_TreeSpace.f k t1185).bind fun bt1189 => ((laws_eqSpace.f k bt1189.1 bt1189.2.1 bt1179.1 bt1179.2.1).bind fun t1195 => (if t1195 = true then (laws_FnExactTreeSpace.j0 k bt1179.2.2 bt1189.2.2 (bt1189.2.2 != bt1179.2.2) l0_0 bt1179.1 bt1179.2.1 t1185 bt1189.1 bt1189.2.1) else (laws_FnExactTreeSpace.j0 k bt1179.2.2 bt1189.2.2 true l0_0 bt1179.1 bt1179.2.1 t1185 bt1189.1 bt1189.2.1)))))))) = some r := H
  have A2 := Aside0.mk A20
  clear A20
  by_cases c3 : t1175 < 0
  · rw [if_pos c3] at H
    have c3b0 : decide (t1175 < 0) = true := decide_eq_true c3
    clear c3
    obtain rfl := Option.some.inj H
    go_enter Try.func13, Try.ntmps13
    go_wp2_with (first | ((with_reducible refine gate_dst (N := 1) rfl ?_); refine box_event ?hg (N := 1) ?hd (cs := #[.slice A0_0 l0_0.length c0_0]) (t := 55) ?hr ?_; (case hd => rfl); (case hg => rfl); (case hr => first | (go_simp; done) | (go_simp; rfl)); intro gb1174 hg w4 hbox hb; have n0_ := Aside0.mk (below_step (by repeat (first | (with_reducible first | exact HB.out | apply below_alloc | apply pw_below_drewN | apply below_drew1) | exact HB.out)) hb); have n1_ := Aside0.mk (hbox); have n2_ := Aside0.mk ((by rw [hg]; exact (below_size (by repeat (first | (with_reducible first | exact HB.out | apply below_alloc | apply pw_below_drewN | apply below_drew1) | exact HB.out))) : w.heap.size ≤ gb1174)); have n3_ := Aside0.mk ((by rw [hg]; exact (below_size (by repeat (first | (with_reducible first | exact HB.out | apply below_alloc | apply pw_below_drewN | apply below_drew1) | exact HB.out))) : w.heap.size ≤ gb1174)); clear HB; have HB := n0_; have BK1174 := n1_; have GW1174 := n2_; have GE1174 := n3_; clear n0_ n1_ n2_ n3_; clear hb hbox hg; have hcz5_0 : w4.cell? ⟨gb1174, 0, none⟩ = some (.slice A0_0 l0_0.length c0_0) := (blk_cell BK1174.out 0).trans rfl; have hfz5_0 := blk_frozen BK1174.out 0) | ((with_reducible refine gate_callee (f := 43) rfl ?_); refine goesL_ (some 16) rfl rfl Try.func43 (by kernel_rfl) rfl #[.agg #[.slice A0_0 l0_0.length c0_0], .int .i64 1048576] rfl (by (try simp only [List.map_toArray, List.map_cons, List.map_nil]); first | done | rfl | (simp only [List.length_drop, List.length_take]; rfl)) ?_; (with_reducible refine (laws_szNet.calls _ _ l0_0 1048576 t1175 _ ?side1 ?side2 A2.out).mono ?_); (case side1 => repeat (first | exact (Kd.C_below HR0_0.out HB.out) | (with_reducible refine Kd.C_alloc ?_ _) | (with_reducible refine Kd.C_drewN ?_ _) | (with_reducible refine Kd.C_drew ?_))); (case side2 => exact HC0_0.out); rintro e w6 ⟨rfl, hb⟩; refine ⟨_, rfl, ?_⟩; have n0_ := Aside0.mk (blk_below (g := gb1174) (o := .cells #[.slice A0_0 l0_0.length c0_0] 55 (0, 0)) (by (with_reducible repeat (first | refine blk_drewN ?_ _ | refine blk_drew ?_ | refine blk_alloc ?_ _)); exact BK1174.out) hb); have n1_ := Aside0.mk (below_step (by repeat (first | (with_reducible first | exact HB.out | apply below_alloc | apply pw_below_drewN | apply below_drew1 | refine below_set ?_ GE1174.out) | exact HB.out)) hb); clear BK1174; clear HB; have BK1174 := n0_; have HB := n1_; clear n0_ n1_; (try clear hb); (try clear hb2); (try clear hk); (try clear hi)))
    go_ret
    exact ⟨by first | rfl | (simp [errW_none, errW_some] <;> rfl) | (simp [*, errW_none, errW_some] <;> rfl), by repeat (first | (with_reducible first | exact HB.out | apply below_alloc | apply pw_below_drewN | apply below_drew1 | refine below_set ?_ GE1174.out) | exact HB.out)⟩
  · rw [if_neg c3] at H
    have c3b0 : decide (t1175 < 0) = false := decide_eq_false c3
    clear c3
    replace H := Option.bind_eq_some_iff.mp H
    obtain ⟨t1176, A70, H⟩ := H
    replace H : ((spec_TreeSpace.f k t1176).bind fun bt1179 => ((laws_toNet.f k l0_0).bind fun t1185 => ((impl_TreeSpace.f k t1185).bind fun bt1189 => ((laws_eqSpace.f k bt1189.1 bt1189.2.1 bt1179.1 bt1179.2.1).bind fun t1195 => (if t1195 = true then (laws_FnExactTreeSpace.j0 k bt1179.2.2 bt1189.2.2 (bt1189.2.2 != bt1179.2.2) l0_0 bt1179.1 bt1179.2.1 t1185 bt1189.1 bt1189.2.1) else (laws_FnExactTreeSpace.j0 k bt1179.2.2 bt1189.2.2 true l0_0 bt1179.1 bt1179.2.1 t1185 bt1189.1 bt1189.2.1)))))) = some r := H
    have A7 := Aside0.mk A70
    clear A70
    replace H := Option.bind_eq_some_iff.mp H
    obtain ⟨⟨t1179, t1180, t1183⟩, A80, H⟩ := H
    replace H : ((laws_toNet.f k l0_0).bind fun t1185 => ((impl_TreeSpace.f k t1185).bind fun bt1189 => ((laws_eqSpace.f k bt1189.1 bt1189.2.1 t1179 t1180).bind fun t1195 => (if t1195 = true then (laws_FnExactTreeSpace.j0 k t1183 bt1189.2.2 (bt1189.2.2 != t1183) l0_0 t1179 t1180 t1185 bt1189.1 bt1189.2.1) else (laws_FnExactTreeSpace.j0 k t1183 bt1189.2.2 true l0_0 t1179 t1180 t1185 bt1189.1 bt1189.2.1))))) = some r := H
    have A8 := Aside0.mk A80
    clear A80
    replace H := Option.bind_eq_some_iff.mp H
    obtain ⟨t1185, A90, H⟩ := H
    replace H : ((impl_TreeSpace.f k t1185).bind fun bt1189 => ((laws_eqSpace.f k bt1189.1 bt1189.2.1 t1179 t1180).bind fun t1195 => (if t1195 = true then (laws_FnExactTreeSpace.j0 k t1183 bt1189.2.2 (bt1189.2.2 != t1183) l0_0 t1179 t1180 t1185 bt1189.1 bt1189.2.1) else (laws_FnExactTreeSpace.j0 k t1183 bt1189.2.2 true l0_0 t1179 t1180 t1185 bt1189.1 bt1189.2.1)))) = some r := H
    have A9 := Aside0.mk A90
    clear A90
    replace H := Option.bind_eq_some_iff.mp H
    obtain ⟨⟨t1189, t1190, t1193⟩, A100, H⟩ := H
    replace H : ((laws_eqSpace.f k t1189 t1190 t1179 t1180).bind fun t1195 => (if t1195 = true then (laws_FnExactTreeSpace.j0 k t1183 t1193 (t1193 != t1183) l0_0 t1179 t1180 t1185 t1189 t1190) else (laws_FnExactTreeSpace.j0 k t1183 t1193 true l0_0 t1179 t1180 t1185 t1189 t1190))) = some r := H
    have A10 := Aside0.mk A100
    clear A100
    have HC11 := Aside0.mk H
    clear H
    go_enter Try.func13, Try.ntmps13
    go_upto_region 8 with (first | ((with_reducible refine gate_dst (N := 1) rfl ?_); refine box_event ?hg (N := 1) ?hd (cs := #[.slice A0_0 l0_0.length c0_0]) (t := 55) ?hr ?_; (case hd => rfl); (case hg => rfl); (case hr => first | (go_simp; done) | (go_simp; rfl)); intro gb1174 hg w12 hbox hb; have n0_ := Aside0.mk (below_step (by repeat (first | (with_reducible first | exact HB.out | apply below_alloc | apply pw_below_drewN | apply below_drew1) | exact HB.out)) hb); have n1_ := Aside0.mk (hbox); have n2_ := Aside0.mk ((by rw [hg]; exact (below_size (by repeat (first | (with_reducible first | exact HB.out | apply below_alloc | apply pw_below_drewN | apply below_drew1) | exact HB.out))) : w.heap.size ≤ gb1174)); have n3_ := Aside0.mk ((by rw [hg]; exact (below_size (by repeat (first | (with_reducible first | exact HB.out | apply below_alloc | apply pw_below_drewN | apply below_drew1) | exact HB.out))) : w.heap.size ≤ gb1174)); clear HB; have HB := n0_; have BK1174 := n1_; have GW1174 := n2_; have GE1174 := n3_; clear n0_ n1_ n2_ n3_; clear hb hbox hg; have hcz13_0 : w12.cell? ⟨gb1174, 0, none⟩ = some (.slice A0_0 l0_0.length c0_0) := (blk_cell BK1174.out 0).trans rfl; have hfz13_0 := blk_frozen BK1174.out 0) | ((with_reducible refine gate_callee (f := 43) rfl ?_); refine goesL_ (some 16) rfl rfl Try.func43 (by kernel_rfl) rfl #[.agg #[.slice A0_0 l0_0.length c0_0], .int .i64 1048576] rfl (by (try simp only [List.map_toArray, List.map_cons, List.map_nil]); first | done | rfl | (simp only [List.length_drop, List.length_take]; rfl)) ?_; (with_reducible refine (laws_szNet.calls _ _ l0_0 1048576 t1175 _ ?side1 ?side2 A2.out).mono ?_); (case side1 => repeat (first | exact (Kd.C_below HR0_0.out HB.out) | (with_reducible refine Kd.C_alloc ?_ _) | (with_reducible refine Kd.C_drewN ?_ _) | (with_reducible refine Kd.C_drew ?_))); (case side2 => exact HC0_0.out); rintro e w14 ⟨rfl, hb⟩; refine ⟨_, rfl, ?_⟩; have n0_ := Aside0.mk (blk_below (g := gb1174) (o := .cells #[.slice A0_0 l0_0.length c0_0] 55 (0, 0)) (by (with_reducible repeat (first | refine blk_drewN ?_ _ | refine blk_drew ?_ | refine blk_alloc ?_ _)); exact BK1174.out) hb); have n1_ := Aside0.mk (below_step (by repeat (first | (with_reducible first | exact HB.out | apply below_alloc | apply pw_below_drewN | apply below_drew1 | refine below_set ?_ GE1174.out) | exact HB.out)) hb); clear BK1174; clear HB; have BK1174 := n0_; have HB := n1_; clear n0_ n1_; (try clear hb); (try clear hb2); (try clear hk); (try clear hi); have hcz15_0 : w14.cell? ⟨gb1174, 0, none⟩ = some (.slice A0_0 l0_0.length c0_0) := (blk_cell BK1174.out 0).trans rfl; have hfz15_0 := blk_frozen BK1174.out 0) | ((with_reducible refine gate_callee (f := 45) rfl ?_); refine goesL_ (some 21) rfl rfl Try.func45 (by kernel_rfl) rfl #[.agg #[.slice A0_0 l0_0.length c0_0]] rfl (by (try simp only [List.map_toArray, List.map_cons, List.map_nil]); first | done | rfl | (simp only [List.length_drop, List.length_take]; rfl)) ?_; (with_reducible refine (laws_toNet.calls k _ _ l0_0 t1176 _ ?side1 ?side2 A7.out).mono ?_); (case side1 => repeat (first | exact (Kd.C_below HR0_0.out HB.out) | (with_reducible refine Kd.C_alloc ?_ _) | (with_reducible refine Kd.C_drewN ?_ _) | (with_reducible refine Kd.C_drew ?_))); (case side2 => exact HC0_0.out); rintro e w16 ⟨v1177, rfl, ho0, hb⟩; refine ⟨_, rfl, ?_⟩; have n0_ := Aside0.mk (Kd.R_lower ho0 (below_size (by repeat (first | (with_reducible first | exact HB.out | apply below_alloc | apply pw_below_drewN | apply below_drew1 | refine below_set ?_ GE1174.out) | exact HB.out)))); have n1_ := Aside0.mk (blk_below (g := gb1174) (o := .cells #[.slice A0_0 l0_0.length c0_0] 55 (0, 0)) (by (with_reducible repeat (first | refine blk_drewN ?_ _ | refine blk_drew ?_ | refine blk_alloc ?_ _)); exact BK1174.out) hb); have n2_ := Aside0.mk (below_step (by repeat (first | (with_reducible first | exact HB.out | apply below_alloc | apply pw_below_drewN | apply below_drew1 | refine below_set ?_ GE1174.out) | exact HB.out)) hb); clear BK1174; clear HB; have HO1178 := n0_; have BK1174 := n1_; have HB := n2_; clear n0_ n1_ n2_; (try clear hb); (try clear hb2); (try clear hk); (try clear hi); (try clear ho0); obtain ⟨Ao17, co17, eo17⟩ := Kd.R_slice HO1178.out; subst eo17) | ((with_reducible refine gate_callee (f := 53) rfl ?_); refine goesL_ (some 22) rfl rfl Try.func53 (by kernel_rfl) rfl #[.agg #[.slice Ao17 t1176.length co17]] rfl (by (try simp only [List.map_toArray, List.map_cons, List.map_nil]); first | done | rfl | (simp only [List.length_drop, List.length_take]; rfl)) ?_; (with_reducible refine (spec_TreeSpace.calls k _ _ t1176 t1179 t1180 t1183 _ ?side1 ?side2 A8.out).mono ?_); (case side1 => repeat (first | exact (Kd.R_reads' HO1178.out).2.2 | (with_reducible refine Kd.C_alloc ?_ _) | (with_reducible refine Kd.C_drewN ?_ _) | (with_reducible refine Kd.C_drew ?_))); (case side2 => exact (Kd.R_reads' HO1178.out).2.1); rintro e w18 ⟨v1181, rfl, ho0, hb⟩; refine ⟨_, rfl, ?_⟩; have n0_ := Aside0.mk (Kd.R_elder' (by (with_reducible repeat (first | apply Kd.R_alloc | apply Kd.R_drewN | apply Kd.R_drew)); exact HO1178.out) (Kd.R_base ho0) hb); have n1_ := Aside0.mk (Kd.R_lower (Kd.R_new' ho0 (Kd.R_lt (by (with_reducible repeat (first | apply Kd.R_alloc | apply Kd.R_drewN | apply Kd.R_drew)); exact HO1178.out))) (below_size (by repeat (first | (with_reducible first | exact HB.out | apply below_alloc | apply pw_below_drewN | apply below_drew1 | refine below_set ?_ GE1174.out) | exact HB.out)))); have n2_ := Aside0.mk (blk_below (g := gb1174) (o := .cells #[.slice A0_0 l0_0.length c0_0] 55 (0, 0)) (by (with_reducible repeat (first | refine blk_drewN ?_ _ | refine blk_drew ?_ | refine blk_alloc ?_ _)); exact BK1174.out) hb); have n3_ := Aside0.mk (below_step (by repeat (first | (with_reducible first | exact HB.out | apply below_alloc | apply pw_below_drewN | apply below_drew1 | refine below_set ?_ GE1174.out) | exact HB.out)) hb); clear HO1178; clear BK1174; clear HB; have HO1178 := n0_; have HO1182 := n1_; have BK1174 := n2_; have HB := n3_; clear n0_ n1_ n2_ n3_; (try clear hb); (try clear hb2); (try clear hk); (try clear hi); (try clear ho0)) | ((with_reducible refine gate_dst (N := 4) rfl ?_); refine box_event ?hg (N := 4) ?hd (cs := #[.int .i64 0, .slice none 0 0]) (t := 28) ?hr ?_; (case hd => rfl); (case hg => rfl); (case hr => first | (go_simp; done) | (go_simp; rfl)); intro gb1184 hg w19 hbox hb; have n0_ := Aside0.mk (Kd.R_below (by (with_reducible repeat (first | apply Kd.R_alloc | apply Kd.R_drewN | apply Kd.R_drew)); exact HO1178.out) hb); have n1_ := Aside0.mk (Kd.R_below (by (with_reducible repeat (first | apply Kd.R_alloc | apply Kd.R_drewN | apply Kd.R_drew)); exact HO1182.out) hb); have n2_ := Aside0.mk (blk_below (g := gb1174) (o := .cells #[.slice A0_0 l0_0.length c0_0] 55 (0, 0)) (by (with_reducible repeat (first | refine blk_drewN ?_ _ | refine blk_drew ?_ | refine blk_alloc ?_ _)); exact BK1174.out) hb); have n3_ := Aside0.mk (below_step (by repeat (first | (with_reducible first | exact HB.out | apply below_alloc | apply pw_below_drewN | apply below_drew1 | refine below_set ?_ GE1174.out) | exact HB.out)) hb); have n4_ := Aside0.mk (hbox); have n5_ := Aside0.mk ((by rw [hg]; exact (below_size (by repeat (first | (with_reducible first | exact HB.out | apply below_alloc | apply pw_below_drewN | apply below_drew1 | refine below_set ?_ GE1174.out) | exact HB.out))) : w.heap.size ≤ gb1184)); have n6_ := Aside0.mk ((by rw [hg]; exact (below_size (by repeat (first | (with_reducible first | exact HB.out | apply below_alloc | apply pw_below_drewN | apply below_drew1 | refine below_set ?_ GE1174.out) | exact HB.out))) : w.heap.size ≤ gb1184)); have n7_ := Aside0.mk ((by rw [hg]; exact Nat.ne_of_lt (blk_lt (g := gb1174) (o := .cells #[.slice A0_0 l0_0.length c0_0] 55 (0, 0)) (by (with_reducible repeat (first | refine blk_drewN ?_ _ | refine blk_drew ?_ | refine blk_alloc ?_ _)); exact BK1174.out)) : gb1174 ≠ gb1184)); have n8_ := Aside0.mk ((by rw [hg]; exact Nat.ne_of_gt (blk_lt (g := gb1174) (o := .cells #[.slice A0_0 l0_0.length c0_0] 55 (0, 0)) (by (with_reducible repeat (first | refine blk_drewN ?_ _ | refine blk_drew ?_ | refine blk_alloc ?_ _)); exact BK1174.out)) : gb1184 ≠ gb1174)); clear HO1178; clear HO1182; clear BK1174; clear HB; have HO1178 := n0_; have HO1182 := n1_; have BK1174 := n2_; have HB := n3_; have BK1184 := n4_; have GW1184 := n5_; have GE1184 := n6_; have NB1174_1184 := n7_; have NB1184_1174 := n8_; clear n0_ n1_ n2_ n3_ n4_ n5_ n6_ n7_ n8_; clear hb hbox hg; have hnb20 := NB1184_1174.out; have hnc20 := NB1174_1184.out; have hcz21_0 : w19.cell? ⟨gb1184, 0, none⟩ = some (.int .i64 0) := (blk_cell BK1184.out 0).trans rfl; have hcz21_1 : w19.cell? ⟨gb1184, 1, none⟩ = some (.slice none 0 0) := (blk_cell BK1184.out 1).trans rfl; have hfz21_0 := blk_frozen BK1184.out 0; have hfz21_1 := blk_frozen BK1184.out 1; obtain ⟨Ao22, co22, eo22⟩ := Kd.R_slice HO1182.out; subst eo22; have hcz23_0 : w19.cell? ⟨gb1174, 0, none⟩ = some (.slice A0_0 l0_0.length c0_0) := (blk_cell BK1174.out 0).trans rfl; have hfz23_0 := blk_frozen BK1174.out 0) | ((with_reducible refine gate_callee (f := 45) rfl ?_); refine goesL_ (some 26) rfl rfl Try.func45 (by kernel_rfl) rfl #[.agg #[.slice A0_0 l0_0.length c0_0]] rfl (by (try simp only [List.map_toArray, List.map_cons, List.map_nil]); first | done | rfl | (simp only [List.length_drop, List.length_take]; rfl)) ?_; (with_reducible refine (laws_toNet.calls k _ _ l0_0 t1185 _ ?side1 ?side2 A9.out).mono ?_); (case side1 => exact Kd.C_below HR0_0.out (by repeat (first | (with_reducible first | exact HB.out | apply below_alloc | apply pw_below_drewN | apply below_drew1 | refine below_set ?_ GE1174.out | refine below_set ?_ GE1184.out) | exact HB.out))); (case side2 => exact HC0_0.out); rintro e w24 ⟨v1186, rfl, ho0, hb⟩; refine ⟨_, rfl, ?_⟩; have n0_ := Aside0.mk (Kd.R_elder' (by (with_reducible repeat (first | apply Kd.R_alloc | apply Kd.R_drewN | apply Kd.R_drew)); exact (Kd.R_mono (Kd.R_far (p := ⟨gb1184, 1, none⟩) (Kd.R_far (p := ⟨gb1184, 0, none⟩) (Kd.R_types HO1178.out BK1184.out (by decide)) (fun _ hk => hk.2) (.int .i64 t1179)) (fun _ hk => hk.2) (.slice Ao22 t1180.length co22)) (fun _ h_ => h_.1))) (Kd.R_base ho0) hb); have n1_ := Aside0.mk (Kd.R_elder' (by (with_reducible repeat (first | apply Kd.R_alloc | apply Kd.R_drewN | apply Kd.R_drew)); exact (Kd.R_mono (Kd.R_far (p := ⟨gb1184, 1, none⟩) (Kd.R_far (p := ⟨gb1184, 0, none⟩) (Kd.R_types HO1182.out BK1184.out (by decide)) (fun _ hk => hk.2) (.int .i64 t1179)) (fun _ hk => hk.2) (.slice Ao22 t1180.length co22)) (fun _ h_ => h_.1))) (Kd.R_base ho0) hb); have n2_ := Aside0.mk (Kd.R_lower (Kd.R_new' (Kd.R_new' ho0 (Kd.R_lt (by (with_reducible repeat (first | apply Kd.R_alloc | apply Kd.R_drewN | apply Kd.R_drew)); exact (Kd.R_mono (Kd.R_far (p := ⟨gb1184, 1, none⟩) (Kd.R_far (p := ⟨gb1184, 0, none⟩) (Kd.R_types HO1178.out BK1184.out (by decide)) (fun _ hk => hk.2) (.int .i64 t1179)) (fun _ hk => hk.2) (.slice Ao22 t1180.length co22)) (fun _ h_ => h_.1))))) (Kd.R_lt (by (with_reducible repeat (first | apply Kd.R_alloc | apply Kd.R_drewN | apply Kd.R_drew)); exact (Kd.R_mono (Kd.R_far (p := ⟨gb1184, 1, none⟩) (Kd.R_far (p := ⟨gb1184, 0, none⟩) (Kd.R_types HO1182.out BK1184.out (by decide)) (fun _ hk => hk.2) (.int .i64 t1179)) (fun _ hk => hk.2) (.slice Ao22 t1180.length co22)) (fun _ h_ => h_.1))))) (below_size (by repeat (first | (with_reducible first | exact HB.out | apply below_alloc | apply pw_below_drewN | apply below_drew1 | refine below_set ?_ GE1174.out | refine below_set ?_ GE1184.out) | exact HB.out)))); have n3_ := Aside0.mk (blk_below (g := gb1174) (o := .cells #[.slice A0_0 l0_0.length c0_0] 55 (0, 0)) (by (with_reducible repeat (first | refine blk_drewN ?_ _ | refine blk_drew ?_ | refine blk_alloc ?_ _)); refine blk_far ?_ NB1174_1184.out _; (with_reducible repeat (first | refine blk_drewN ?_ _ | refine blk_drew ?_ | refine blk_alloc ?_ _)); refine blk_far ?_ NB1174_1184.out _; (with_reducible repeat (first | refine blk_drewN ?_ _ | refine blk_drew ?_ | refine blk_alloc ?_ _)); exact BK1174.out) hb); have n4_ := Aside0.mk (blk_below (g := gb1184) (o := .cells #[.int .i64 t1179, .slice Ao22 t1180.length co22] 28 (0, 0)) (by (with_reducible repeat (first | refine blk_drewN ?_ _ | refine blk_drew ?_ | refine blk_alloc ?_ _)); refine blk_put (cs := #[.int .i64 t1179, .slice none 0 0]) ?_ 1 _ rfl; (with_reducible repeat (first | refine blk_drewN ?_ _ | refine blk_drew ?_ | refine blk_alloc ?_ _)); refine blk_put (cs := #[.int .i64 0, .slice none 0 0]) ?_ 0 _ rfl; (with_reducible repeat (first | refine blk_drewN ?_ _ | refine blk_drew ?_ | refine blk_alloc ?_ _)); exact BK1184.out) hb); have n5_ := Aside0.mk (below_step (by repeat (first | (with_reducible first | exact HB.out | apply below_alloc | apply pw_below_drewN | apply below_drew1 | refine below_set ?_ GE1174.out | refine below_set ?_ GE1184.out) | exact HB.out)) hb); clear HO1178; clear HO1182; clear BK1174; clear BK1184; clear HB; have HO1178 := n0_; have HO1182 := n1_; have HO1187 := n2_; have BK1174 := n3_; have BK1184 := n4_; have HB := n5_; clear n0_ n1_ n2_ n3_ n4_ n5_; (try clear hb); (try clear hb2); (try clear hk); (try clear hi); (try clear ho0)) | ((with_reducible refine gate_dst (N := 6) rfl ?_); refine box_event ?hg (N := 6) ?hd (cs := #[.slice none 0 0]) (t := 58) ?hr ?_; (case hd => rfl); (case hg => rfl); (case hr => first | (go_simp; done) | (go_simp; rfl)); intro gb1188 hg w25 hbox hb; have n0_ := Aside0.mk (Kd.R_below (by (with_reducible repeat (first | apply Kd.R_alloc | apply Kd.R_drewN | apply Kd.R_drew)); exact HO1178.out) hb); have n1_ := Aside0.mk (Kd.R_below (by (with_reducible repeat (first | apply Kd.R_alloc | apply Kd.R_drewN | apply Kd.R_drew)); exact HO1182.out) hb); have n2_ := Aside0.mk (Kd.R_below (by (with_reducible repeat (first | apply Kd.R_alloc | apply Kd.R_drewN | apply Kd.R_drew)); exact HO1187.out) hb); have n3_ := Aside0.mk (blk_below (g := gb1174) (o := .cells #[.slice A0_0 l0_0.length c0_0] 55 (0, 0)) (by (with_reducible repeat (first | refine blk_drewN ?_ _ | refine blk_drew ?_ | refine blk_alloc ?_ _)); exact BK1174.out) hb); have n4_ := Aside0.mk (blk_below (g := gb1184) (o := .cells #[.int .i64 t1179, .slice Ao22 t1180.length co22] 28 (0, 0)) (by (with_reducible repeat (first | refine blk_drewN ?_ _ | refine blk_drew ?_ | refine blk_alloc ?_ _)); exact BK1184.out) hb); have n5_ := Aside0.mk (below_step (by repeat (first | (with_reducible first | exact HB.out | apply below_alloc | apply pw_below_drewN | apply below_drew1 | refine below_set ?_ GE1174.out | refine below_set ?_ GE1184.out) | exact HB.out)) hb); have n6_ := Aside0.mk (hbox); have n7_ := Aside0.mk ((by rw [hg]; exact (below_size (by repeat (first | (with_reducible first | exact HB.out | apply below_alloc | apply pw_below_drewN | apply below_drew1 | refine below_set ?_ GE1174.out | refine below_set ?_ GE1184.out) | exact HB.out))) : w.heap.size ≤ gb1188)); have n8_ := Aside0.mk ((by rw [hg]; exact (below_size (by repeat (first | (with_reducible first | exact HB.out | apply below_alloc | apply pw_below_drewN | apply below_drew1 | refine below_set ?_ GE1174.out | refine below_set ?_ GE1184.out) | exact HB.out))) : w.heap.size ≤ gb1188)); have n9_ := Aside0.mk ((by rw [hg]; exact Nat.ne_of_lt (blk_lt (g := gb1174) (o := .cells #[.slice A0_0 l0_0.length c0_0] 55 (0, 0)) (by (with_reducible repeat (first | refine blk_drewN ?_ _ | refine blk_drew ?_ | refine blk_alloc ?_ _)); exact BK1174.out)) : gb1174 ≠ gb1188)); have n10_ := Aside0.mk ((by rw [hg]; exact Nat.ne_of_gt (blk_lt (g := gb1174) (o := .cells #[.slice A0_0 l0_0.length c0_0] 55 (0, 0)) (by (with_reducible repeat (first | refine blk_drewN ?_ _ | refine blk_drew ?_ | refine blk_alloc ?_ _)); exact BK1174.out)) : gb1188 ≠ gb1174)); have n11_ := Aside0.mk ((by rw [hg]; exact Nat.ne_of_lt (blk_lt (g := gb1184) (o := .cells #[.int .i64 t1179, .slice Ao22 t1180.length co22] 28 (0, 0)) (by (with_reducible repeat (first | refine blk_drewN ?_ _ | refine blk_drew ?_ | refine blk_alloc ?_ _)); exact BK1184.out)) : gb1184 ≠ gb1188)); have n12_ := Aside0.mk ((by rw [hg]; exact Nat.ne_of_gt (blk_lt (g := gb1184) (o := .cells #[.int .i64 t1179, .slice Ao22 t1180.length co22] 28 (0, 0)) (by (with_reducible repeat (first | refine blk_drewN ?_ _ | refine blk_drew ?_ | refine blk_alloc ?_ _)); exact BK1184.out)) : gb1188 ≠ gb1184)); clear HO1178; clear HO1182; clear HO1187; clear BK1174; clear BK1184; clear HB; have HO1178 := n0_; have HO1182 := n1_; have HO1187 := n2_; have BK1174 := n3_; have BK1184 := n4_; have HB := n5_; have BK1188 := n6_; have GW1188 := n7_; have GE1188 := n8_; have NB1174_1188 := n9_; have NB1188_1174 := n10_; have NB1184_1188 := n11_; have NB1188_1184 := n12_; clear n0_ n1_ n2_ n3_ n4_ n5_ n6_ n7_ n8_ n9_ n10_ n11_ n12_; clear hb hbox hg; obtain ⟨Ao26, co26, eo26⟩ := Kd.R_slice HO1187.out; subst eo26; have hnb27 := NB1188_1174.out; have hnc27 := NB1174_1188.out; have hnb28 := NB1188_1184.out; have hnc28 := NB1184_1188.out; have hcz29_0 : w25.cell? ⟨gb1188, 0, none⟩ = some (.slice none 0 0) := (blk_cell BK1188.out 0).trans rfl; have hfz29_0 := blk_frozen BK1188.out 0) | ((with_reducible refine gate_store (t := 58) (p := 6) rfl ?_); refine store_event (t := 58) (p := 6) (v := ?vo_w30) (w1 := (w25.setCell ⟨gb1188, 0, none⟩ (.slice Ao26 t1185.length co26))) ?hg ?ho ?hn ?hr ?_; (case ho => rfl); (case hg => rfl); (case hn => rfl); (case hr => first | (go_simp; done) | (go_simp; rfl)); intro w30 hw; have n0_ : Aside0 (Kd.R (Kd.int .i64) 3 w30 w.heap.size (fun k_ => some k_ ≠ (.slice Ao22 t1180.length co22 : Value).ownBlock ∧ some k_ ≠ (.slice Ao26 t1185.length co26 : Value).ownBlock) (.slice Ao17 t1176.length co17) t1176) := ⟨(by rw [hw]; exact (by (with_reducible repeat (first | apply Kd.R_alloc | apply Kd.R_drewN | apply Kd.R_drew)); exact Kd.R_mono (Kd.R_far (p := ⟨gb1188, 0, none⟩) (Kd.R_types HO1178.out BK1188.out (by decide)) (fun _ hk => hk.2) (.slice Ao26 t1185.length co26)) (fun _ hk => ⟨hk.1.1.2, hk.1.2⟩)))⟩; have n1_ : Aside0 (Kd.R (Kd.int .i64) 3 w30 w.heap.size (fun k_ => some k_ ≠ (.slice Ao17 t1176.length co17 : Value).ownBlock ∧ some k_ ≠ (.slice Ao26 t1185.length co26 : Value).ownBlock) (.slice Ao22 t1180.length co22) t1180) := ⟨(by rw [hw]; exact (by (with_reducible repeat (first | apply Kd.R_alloc | apply Kd.R_drewN | apply Kd.R_drew)); exact Kd.R_mono (Kd.R_far (p := ⟨gb1188, 0, none⟩) (Kd.R_types HO1182.out BK1188.out (by decide)) (fun _ hk => hk.2) (.slice Ao26 t1185.length co26)) (fun _ hk => ⟨hk.1.1.2, hk.1.2⟩)))⟩; have n2_ : Aside0 (Kd.R (Kd.int .i64) 3 w30 w.heap.size (fun k_ => some k_ ≠ (.slice Ao17 t1176.length co17 : Value).ownBlock ∧ some k_ ≠ (.slice Ao22 t1180.length co22 : Value).ownBlock) (.slice Ao26 t1185.length co26) t1185) := ⟨(by rw [hw]; exact (by (with_reducible repeat (first | apply Kd.R_alloc | apply Kd.R_drewN | apply Kd.R_drew)); exact Kd.R_mono (Kd.R_far (p := ⟨gb1188, 0, none⟩) (Kd.R_types HO1187.out BK1188.out (by decide)) (fun _ hk => hk.2) (.slice Ao26 t1185.length co26)) (fun _ hk => ⟨hk.1.1.2, hk.1.2⟩)))⟩; have n3_ : Aside0 (w30.heap[gb1174]? = some (.cells #[.slice A0_0 l0_0.length c0_0] 55 (0, 0))) := ⟨(by rw [hw]; exact (by (with_reducible repeat (first | refine blk_drewN ?_ _ | refine blk_drew ?_ | refine blk_alloc ?_ _)); refine blk_far ?_ NB1174_1188.out _; (with_reducible repeat (first | refine blk_drewN ?_ _ | refine blk_drew ?_ | refine blk_alloc ?_ _)); exact BK1174.out))⟩; have n4_ : Aside0 (w30.heap[gb1184]? = some (.cells #[.int .i64 t1179, .slice Ao22 t1180.length co22] 28 (0, 0))) := ⟨(by rw [hw]; exact (by (with_reducible repeat (first | refine blk_drewN ?_ _ | refine blk_drew ?_ | refine blk_alloc ?_ _)); refine blk_far ?_ NB1184_1188.out _; (with_reducible repeat (first | refine blk_drewN ?_ _ | refine blk_drew ?_ | refine blk_alloc ?_ _)); exact BK1184.out))⟩; have n5_ : Aside0 (w30.heap[gb1188]? = some (.cells #[.slice Ao26 t1185.length co26] 58 (0, 0))) := ⟨(by rw [hw]; exact (by (with_reducible repeat (first | refine blk_drewN ?_ _ | refine blk_drew ?_ | refine blk_alloc ?_ _)); refine blk_put (cs := #[.slice none 0 0]) ?_ 0 _ rfl; (with_reducible repeat (first | refine blk_drewN ?_ _ | refine blk_drew ?_ | refine blk_alloc ?_ _)); exact BK1188.out))⟩; have n6_ : Aside0 (Below w.heap.size w w30) := ⟨(by rw [hw]; exact (by repeat (first | (with_reducible first | exact HB.out | apply below_alloc | apply pw_below_drewN | apply below_drew1 | refine below_set ?_ GE1174.out | refine below_set ?_ GE1184.out | refine below_set ?_ GE1188.out) | exact HB.out)))⟩; clear hw; clear HO1178; clear HO1182; clear HO1187; clear BK1174; clear BK1184; clear BK1188; clear HB; have HO1178 := n0_; have HO1182 := n1_; have HO1187 := n2_; have BK1174 := n3_; have BK1184 := n4_; have BK1188 := n5_; have HB := n6_; clear n0_ n1_ n2_ n3_ n4_ n5_ n6_; have hcz31_0 : w30.cell? ⟨gb1188, 0, none⟩ = some (.slice Ao26 t1185.length co26) := (blk_cell BK1188.out 0).trans rfl; have hfz31_0 := blk_frozen BK1188.out 0) | ((with_reducible refine gate_callee (f := 54) rfl ?_); refine goesL_ (some 29) rfl rfl Try.func54 (by kernel_rfl) rfl #[.agg #[.slice Ao26 t1185.length co26]] rfl (by (try simp only [List.map_toArray, List.map_cons, List.map_nil]); first | done | rfl | (simp only [List.length_drop, List.length_take]; rfl)) ?_; (with_reducible refine (impl_TreeSpace.calls k (fun k_ => some k_ = (.slice Ao26 t1185.length co26 : Value).ownBlock) _ _ t1185 t1189 t1190 t1193 _ ?side1 A10.out).mono ?_); (case side1 => exact Kd.R_V (Kd.R_tight rfl (Kd.R_types (Kd.R_types (Kd.R_types (HO1187.out) BK1174.out (by decide)) BK1184.out (by decide)) BK1188.out (by decide)))); rintro e w32 ⟨v1191, rfl, ho0, hb⟩; refine ⟨_, rfl, ?_⟩; have n0_ := Aside0.mk (Kd.R_elder' (by (with_reducible repeat (first | apply Kd.R_alloc | apply Kd.R_drewN | apply Kd.R_drew)); exact HO1178.out) (Kd.R_base ho0) hb); have n1_ := Aside0.mk (Kd.R_elder' (by (with_reducible repeat (first | apply Kd.R_alloc | apply Kd.R_drewN | apply Kd.R_drew)); exact HO1182.out) (Kd.R_base ho0) hb); have n2_ := Aside0.mk (Kd.R_elder' (by (with_reducible repeat (first | apply Kd.R_alloc | apply Kd.R_drewN | apply Kd.R_drew)); exact HO1187.out) (Kd.R_base ho0) hb); have n3_ := Aside0.mk (Kd.R_lower (Kd.R_new' (Kd.R_new' (Kd.R_new' (Kd.R_mono (ok' := fun k_ => True) ho0 (fun _ hk_ => trivial)) (Kd.R_lt (by (with_reducible repeat (first | apply Kd.R_alloc | apply Kd.R_drewN | apply Kd.R_drew)); exact HO1178.out))) (Kd.R_lt (by (with_reducible repeat (first | apply Kd.R_alloc | apply Kd.R_drewN | apply Kd.R_drew)); exact HO1182.out))) (Kd.R_lt (by (with_reducible repeat (first | apply Kd.R_alloc | apply Kd.R_drewN | apply Kd.R_drew)); exact HO1187.out))) (below_size (by repeat (first | (with_reducible first | exact HB.out | apply below_alloc | apply pw_below_drewN | apply below_drew1 | refine below_set ?_ GE1174.out | refine below_set ?_ GE1184.out | refine below_set ?_ GE1188.out) | exact HB.out)))); have n4_ := Aside0.mk (blk_below (g := gb1174) (o := .cells #[.slice A0_0 l0_0.length c0_0] 55 (0, 0)) (by (with_reducible repeat (first | refine blk_drewN ?_ _ | refine blk_drew ?_ | refine blk_alloc ?_ _)); exact BK1174.out) hb); have n5_ := Aside0.mk (blk_below (g := gb1184) (o := .cells #[.int .i64 t1179, .slice Ao22 t1180.length co22] 28 (0, 0)) (by (with_reducible repeat (first | refine blk_drewN ?_ _ | refine blk_drew ?_ | refine blk_alloc ?_ _)); exact BK1184.out) hb); have n6_ := Aside0.mk (blk_below (g := gb1188) (o := .cells #[.slice Ao26 t1185.length co26] 58 (0, 0)) (by (with_reducible repeat (first | refine blk_drewN ?_ _ | refine blk_drew ?_ | refine blk_alloc ?_ _)); exact BK1188.out) hb); have n7_ := Aside0.mk (below_step (by repeat (first | (with_reducible first | exact HB.out | apply below_alloc | apply pw_below_drewN | apply below_drew1 | refine below_set ?_ GE1174.out | refine below_set ?_ GE1184.out | refine below_set ?_ GE1188.out) | exact HB.out)) hb); clear HO1178; clear HO1182; clear HO1187; clear BK1174; clear BK1184; clear BK1188; clear HB; have HO1178 := n0_; have HO1182 := n1_; have HO1187 := n2_; have HO1192 := n3_; have BK1174 := n4_; have BK1184 := n5_; have BK1188 := n6_; have HB := n7_; clear n0_ n1_ n2_ n3_ n4_ n5_ n6_ n7_; (try clear hb); (try clear hb2); (try clear hk); (try clear hi); (try clear ho0)) | ((with_reducible refine gate_dst (N := 7) rfl ?_); refine box_event ?hg (N := 7) ?hd (cs := #[.int .i64 0, .slice none 0 0]) (t := 28) ?hr ?_; (case hd => rfl); (case hg => rfl); (case hr => first | (go_simp; done) | (go_simp; rfl)); intro gb1194 hg w33 hbox hb; have n0_ := Aside0.mk (Kd.R_below (by (with_reducible repeat (first | apply Kd.R_alloc | apply Kd.R_drewN | apply Kd.R_drew)); exact HO1178.out) hb); have n1_ := Aside0.mk (Kd.R_below (by (with_reducible repeat (first | apply Kd.R_alloc | apply Kd.R_drewN | apply Kd.R_drew)); exact HO1182.out) hb); have n2_ := Aside0.mk (Kd.R_below (by (with_reducible repeat (first | apply Kd.R_alloc | apply Kd.R_drewN | apply Kd.R_drew)); exact HO1187.out) hb); have n3_ := Aside0.mk (Kd.R_below (by (with_reducible repeat (first | apply Kd.R_alloc | apply Kd.R_drewN | apply Kd.R_drew)); exact HO1192.out) hb); have n4_ := Aside0.mk (blk_below (g := gb1174) (o := .cells #[.slice A0_0 l0_0.length c0_0] 55 (0, 0)) (by (with_reducible repeat (first | refine blk_drewN ?_ _ | refine blk_drew ?_ | refine blk_alloc ?_ _)); exact BK1174.out) hb); have n5_ := Aside0.mk (blk_below (g := gb1184) (o := .cells #[.int .i64 t1179, .slice Ao22 t1180.length co22] 28 (0, 0)) (by (with_reducible repeat (first | refine blk_drewN ?_ _ | refine blk_drew ?_ | refine blk_alloc ?_ _)); exact BK1184.out) hb); have n6_ := Aside0.mk (blk_below (g := gb1188) (o := .cells #[.slice Ao26 t1185.length co26] 58 (0, 0)) (by (with_reducible repeat (first | refine blk_drewN ?_ _ | refine blk_drew ?_ | refine blk_alloc ?_ _)); exact BK1188.out) hb); have n7_ := Aside0.mk (below_step (by repeat (first | (with_reducible first | exact HB.out | apply below_alloc | apply pw_below_drewN | apply below_drew1 | refine below_set ?_ GE1174.out | refine below_set ?_ GE1184.out | refine below_set ?_ GE1188.out) | exact HB.out)) hb); have n8_ := Aside0.mk (hbox); have n9_ := Aside0.mk ((by rw [hg]; exact (below_size (by repeat (first | (with_reducible first | exact HB.out | apply below_alloc | apply pw_below_drewN | apply below_drew1 | refine below_set ?_ GE1174.out | refine below_set ?_ GE1184.out | refine below_set ?_ GE1188.out) | exact HB.out))) : w.heap.size ≤ gb1194)); have n10_ := Aside0.mk ((by rw [hg]; exact (below_size (by repeat (first | (with_reducible first | exact HB.out | apply below_alloc | apply pw_below_drewN | apply below_drew1 | refine below_set ?_ GE1174.out | refine below_set ?_ GE1184.out | refine below_set ?_ GE1188.out) | exact HB.out))) : w.heap.size ≤ gb1194)); have n11_ := Aside0.mk ((by rw [hg]; exact Nat.ne_of_lt (blk_lt (g := gb1174) (o := .cells #[.slice A0_0 l0_0.length c0_0] 55 (0, 0)) (by (with_reducible repeat (first | refine blk_drewN ?_ _ | refine blk_drew ?_ | refine blk_alloc ?_ _)); exact BK1174.out)) : gb1174 ≠ gb1194)); have n12_ := Aside0.mk ((by rw [hg]; exact Nat.ne_of_gt (blk_lt (g := gb1174) (o := .cells #[.slice A0_0 l0_0.length c0_0] 55 (0, 0)) (by (with_reducible repeat (first | refine blk_drewN ?_ _ | refine blk_drew ?_ | refine blk_alloc ?_ _)); exact BK1174.out)) : gb1194 ≠ gb1174)); have n13_ := Aside0.mk ((by rw [hg]; exact Nat.ne_of_lt (blk_lt (g := gb1184) (o := .cells #[.int .i64 t1179, .slice Ao22 t1180.length co22] 28 (0, 0)) (by (with_reducible repeat (first | refine blk_drewN ?_ _ | refine blk_drew ?_ | refine blk_alloc ?_ _)); exact BK1184.out)) : gb1184 ≠ gb1194)); have n14_ := Aside0.mk ((by rw [hg]; exact Nat.ne_of_gt (blk_lt (g := gb1184) (o := .cells #[.int .i64 t1179, .slice Ao22 t1180.length co22] 28 (0, 0)) (by (with_reducible repeat (first | refine blk_drewN ?_ _ | refine blk_drew ?_ | refine blk_alloc ?_ _)); exact BK1184.out)) : gb1194 ≠ gb1184)); have n15_ := Aside0.mk ((by rw [hg]; exact Nat.ne_of_lt (blk_lt (g := gb1188) (o := .cells #[.slice Ao26 t1185.length co26] 58 (0, 0)) (by (with_reducible repeat (first | refine blk_drewN ?_ _ | refine blk_drew ?_ | refine blk_alloc ?_ _)); exact BK1188.out)) : gb1188 ≠ gb1194)); have n16_ := Aside0.mk ((by rw [hg]; exact Nat.ne_of_gt (blk_lt (g := gb1188) (o := .cells #[.slice Ao26 t1185.length co26] 58 (0, 0)) (by (with_reducible repeat (first | refine blk_drewN ?_ _ | refine blk_drew ?_ | refine blk_alloc ?_ _)); exact BK1188.out)) : gb1194 ≠ gb1188)); clear HO1178; clear HO1182; clear HO1187; clear HO1192; clear BK1174; clear BK1184; clear BK1188; clear HB; have HO1178 := n0_; have HO1182 := n1_; have HO1187 := n2_; have HO1192 := n3_; have BK1174 := n4_; have BK1184 := n5_; have BK1188 := n6_; have HB := n7_; have BK1194 := n8_; have GW1194 := n9_; have GE1194 := n10_; have NB1174_1194 := n11_; have NB1194_1174 := n12_; have NB1184_1194 := n13_; have NB1194_1184 := n14_; have NB1188_1194 := n15_; have NB1194_1188 := n16_; clear n0_ n1_ n2_ n3_ n4_ n5_ n6_ n7_ n8_ n9_ n10_ n11_ n12_ n13_ n14_ n15_ n16_; clear hb hbox hg; have hnb34 := NB1194_1174.out; have hnc34 := NB1174_1194.out; have hnb35 := NB1194_1184.out; have hnc35 := NB1184_1194.out; have hnb36 := NB1194_1188.out; have hnc36 := NB1188_1194.out; have hcz37_0 : w33.cell? ⟨gb1194, 0, none⟩ = some (.int .i64 0) := (blk_cell BK1194.out 0).trans rfl; have hcz37_1 : w33.cell? ⟨gb1194, 1, none⟩ = some (.slice none 0 0) := (blk_cell BK1194.out 1).trans rfl; have hfz37_0 := blk_frozen BK1194.out 0; have hfz37_1 := blk_frozen BK1194.out 1; obtain ⟨Ao38, co38, eo38⟩ := Kd.R_slice HO1192.out; subst eo38))
    (try simp only [Act.put, List.setIfInBounds_toArray, List.set_cons_zero, List.set_cons_succ])
    go_cut [40] (fun v40 wc => ∃ (kq : Nat) (x40_10 : Bool), v40 = .bool x40_10 ∧ Aside0 (laws_FnExactTreeSpace.j0 kq t1183 t1193 x40_10 l0_0 t1179 t1180 t1185 t1189 t1190 = some r) ∧ Aside0 (kq ≤ k) ∧ Aside0 (Kd.R (Kd.int .i64) 3 wc w.heap.size (fun k_ => some k_ ≠ ((.slice Ao26 t1185.length co26) : Value).ownBlock ∧ some k_ ≠ ((.slice Ao38 t1190.length co38) : Value).ownBlock) (.slice Ao22 t1180.length co22) t1180) ∧ Aside0 (Kd.R (Kd.int .i64) 3 wc w.heap.size (fun k_ => some k_ ≠ ((.slice Ao22 t1180.length co22) : Value).ownBlock ∧ some k_ ≠ ((.slice Ao38 t1190.length co38) : Value).ownBlock) (.slice Ao26 t1185.length co26) t1185) ∧ Aside0 (Kd.R (Kd.int .i64) 3 wc w.heap.size (fun k_ => some k_ ≠ ((.slice Ao22 t1180.length co22) : Value).ownBlock ∧ some k_ ≠ ((.slice Ao26 t1185.length co26) : Value).ownBlock) (.slice Ao38 t1190.length co38) t1190) ∧ Aside0 (wc.heap[gb1174]? = some (.cells #[(.slice A0_0 l0_0.length c0_0)] 55 (0, 0))) ∧ Aside0 (wc.heap[gb1184]? = some (.cells #[.int .i64 t1179, (.slice Ao22 t1180.length co22)] 28 (0, 0))) ∧ Aside0 (wc.heap[gb1188]? = some (.cells #[(.slice Ao26 t1185.length co26)] 58 (0, 0))) ∧ Aside0 (wc.heap[gb1194]? = some (.cells #[.int .i64 t1189, (.slice Ao38 t1190.length co38)] 28 (0, 0))) ∧ Aside0 (Below w.heap.size w wc))
    case first =>
      have H := HC11.out
      clear HC11
      replace H := Option.bind_eq_some_iff.mp H
      obtain ⟨t1195, A390, H⟩ := H
      replace H : (if t1195 = true then (laws_FnExactTreeSpace.j0 k t1183 t1193 (t1193 != t1183) l0_0 t1179 t1180 t1185 t1189 t1190) else (laws_FnExactTreeSpace.j0 k t1183 t1193 true l0_0 t1179 t1180 t1185 t1189 t1190)) = some r := H
      have A39 := Aside0.mk A390
      clear A390
      by_cases c40 : t1195 = true
      · subst c40
        have H1 : (laws_FnExactTreeSpace.j0 k t1183 t1193 (t1193 != t1183) l0_0 t1179 t1180 t1185 t1189 t1190) = some r := by rw [if_pos rfl] at H; exact H
        clear H
        have H := H1
        clear H1
        have H' := Aside0.mk H
        clear H
        have hnb41 := NB1194_1174.out
        have hnc41 := NB1174_1194.out
        have hnb42 := NB1194_1184.out
        have hnc42 := NB1184_1194.out
        have hnb43 := NB1194_1188.out
        have hnc43 := NB1188_1194.out
        have hcz44_0 : w33.cell? ⟨gb1194, 0, none⟩ = some (.int .i64 0) := (blk_cell BK1194.out 0).trans rfl
        have hcz44_1 : w33.cell? ⟨gb1194, 1, none⟩ = some (.slice none 0 0) := (blk_cell BK1194.out 1).trans rfl
        have hfz44_0 := blk_frozen BK1194.out 0
        have hfz44_1 := blk_frozen BK1194.out 1
        have hnb45 := NB1184_1174.out
        have hnc45 := NB1174_1184.out
        have hnb46 := NB1184_1188.out
        have hnc46 := NB1188_1184.out
        have hcz47_0 : w33.cell? ⟨gb1184, 0, none⟩ = some (.int .i64 t1179) := (blk_cell BK1184.out 0).trans rfl
        have hcz47_1 : w33.cell? ⟨gb1184, 1, none⟩ = some (.slice Ao22 t1180.length co22) := (blk_cell BK1184.out 1).trans rfl
        have hfz47_0 := blk_frozen BK1184.out 0
        have hfz47_1 := blk_frozen BK1184.out 1
        go_wp2_with (first | ((with_reducible refine gate_callee (f := 19) rfl ?_); refine goesL_ (some 34) rfl rfl Try.func19 (by kernel_rfl) rfl #[.agg #[.int .i64 t1189, .slice Ao38 t1190.length co38], .agg #[.int .i64 t1179, .slice Ao22 t1180.length co22]] rfl (by (try simp only [List.map_toArray, List.map_cons, List.map_nil]); first | done | rfl | (simp only [List.length_drop, List.length_take]; rfl)) ?_; (with_reducible refine (laws_eqSpace.calls k t1189 _ _ t1190 t1179 _ _ t1180 true _ ?side1 ?side2 ?side3 ?side4 A39.out).mono ?_); (case side1 => refine (Kd.R_reads' (e := 3) (base := w.heap.size) (ok := fun k_ => (((True ∧ some k_ ≠ (.slice Ao17 t1176.length co17 : Value).ownBlock) ∧ some k_ ≠ (.slice Ao22 t1180.length co22 : Value).ownBlock) ∧ some k_ ≠ (.slice Ao26 t1185.length co26 : Value).ownBlock)) (n := t1190.length) (c := co38) ?_).2.2; exact (by (with_reducible repeat (first | apply Kd.R_alloc | apply Kd.R_drewN | apply Kd.R_drew)); exact (Kd.R_mono (Kd.R_far (p := ⟨gb1194, 1, none⟩) (Kd.R_far (p := ⟨gb1194, 0, none⟩) (Kd.R_types HO1192.out BK1194.out (by decide)) (fun _ hk => hk.2) (.int .i64 t1189)) (fun _ hk => hk.2) (.slice Ao38 t1190.length co38)) (fun _ h_ => h_.1)))); (case side2 => exact (Kd.R_reads' HO1192.out).2.1); (case side3 => refine (Kd.R_reads' (e := 3) (base := w.heap.size) (ok := fun k_ => ((some k_ ≠ (.slice Ao17 t1176.length co17 : Value).ownBlock ∧ some k_ ≠ (.slice Ao26 t1185.length co26 : Value).ownBlock) ∧ some k_ ≠ (.slice Ao38 t1190.length co38 : Value).ownBlock)) (n := t1180.length) (c := co22) ?_).2.2; exact (by (with_reducible repeat (first | apply Kd.R_alloc | apply Kd.R_drewN | apply Kd.R_drew)); exact (Kd.R_mono (Kd.R_far (p := ⟨gb1194, 1, none⟩) (Kd.R_far (p := ⟨gb1194, 0, none⟩) (Kd.R_types HO1182.out BK1194.out (by decide)) (fun _ hk => hk.2) (.int .i64 t1189)) (fun _ hk => hk.2) (.slice Ao38 t1190.length co38)) (fun _ h_ => h_.1)))); (case side4 => exact (Kd.R_reads' HO1182.out).2.1); rintro e w48 ⟨rfl, hb⟩; refine ⟨_, rfl, ?_⟩; have n0_ := Aside0.mk (Kd.R_below (by (with_reducible repeat (first | apply Kd.R_alloc | apply Kd.R_drewN | apply Kd.R_drew)); exact (Kd.R_mono (Kd.R_far (p := ⟨gb1194, 1, none⟩) (Kd.R_far (p := ⟨gb1194, 0, none⟩) (Kd.R_types HO1178.out BK1194.out (by decide)) (fun _ hk => hk.2) (.int .i64 t1189)) (fun _ hk => hk.2) (.slice Ao38 t1190.length co38)) (fun _ h_ => h_.1))) hb); have n1_ := Aside0.mk (Kd.R_below (by (with_reducible repeat (first | apply Kd.R_alloc | apply Kd.R_drewN | apply Kd.R_drew)); exact (Kd.R_mono (Kd.R_far (p := ⟨gb1194, 1, none⟩) (Kd.R_far (p := ⟨gb1194, 0, none⟩) (Kd.R_types HO1182.out BK1194.out (by decide)) (fun _ hk => hk.2) (.int .i64 t1189)) (fun _ hk => hk.2) (.slice Ao38 t1190.length co38)) (fun _ h_ => h_.1))) hb); have n2_ := Aside0.mk (Kd.R_below (by (with_reducible repeat (first | apply Kd.R_alloc | apply Kd.R_drewN | apply Kd.R_drew)); exact (Kd.R_mono (Kd.R_far (p := ⟨gb1194, 1, none⟩) (Kd.R_far (p := ⟨gb1194, 0, none⟩) (Kd.R_types HO1187.out BK1194.out (by decide)) (fun _ hk => hk.2) (.int .i64 t1189)) (fun _ hk => hk.2) (.slice Ao38 t1190.length co38)) (fun _ h_ => h_.1))) hb); have n3_ := Aside0.mk (Kd.R_below (by (with_reducible repeat (first | apply Kd.R_alloc | apply Kd.R_drewN | apply Kd.R_drew)); exact (Kd.R_mono (Kd.R_far (p := ⟨gb1194, 1, none⟩) (Kd.R_far (p := ⟨gb1194, 0, none⟩) (Kd.R_types HO1192.out BK1194.out (by decide)) (fun _ hk => hk.2) (.int .i64 t1189)) (fun _ hk => hk.2) (.slice Ao38 t1190.length co38)) (fun _ h_ => h_.1))) hb); have n4_ := Aside0.mk (blk_below (g := gb1174) (o := .cells #[.slice A0_0 l0_0.length c0_0] 55 (0, 0)) (by (with_reducible repeat (first | refine blk_drewN ?_ _ | refine blk_drew ?_ | refine blk_alloc ?_ _)); refine blk_far ?_ NB1174_1194.out _; (with_reducible repeat (first | refine blk_drewN ?_ _ | refine blk_drew ?_ | refine blk_alloc ?_ _)); refine blk_far ?_ NB1174_1194.out _; (with_reducible repeat (first | refine blk_drewN ?_ _ | refine blk_drew ?_ | refine blk_alloc ?_ _)); exact BK1174.out) hb); have n5_ := Aside0.mk (blk_below (g := gb1184) (o := .cells #[.int .i64 t1179, .slice Ao22 t1180.length co22] 28 (0, 0)) (by (with_reducible repeat (first | refine blk_drewN ?_ _ | refine blk_drew ?_ | refine blk_alloc ?_ _)); refine blk_far ?_ NB1184_1194.out _; (with_reducible repeat (first | refine blk_drewN ?_ _ | refine blk_drew ?_ | refine blk_alloc ?_ _)); refine blk_far ?_ NB1184_1194.out _; (with_reducible repeat (first | refine blk_drewN ?_ _ | refine blk_drew ?_ | refine blk_alloc ?_ _)); exact BK1184.out) hb); have n6_ := Aside0.mk (blk_below (g := gb1188) (o := .cells #[.slice Ao26 t1185.length co26] 58 (0, 0)) (by (with_reducible repeat (first | refine blk_drewN ?_ _ | refine blk_drew ?_ | refine blk_alloc ?_ _)); refine blk_far ?_ NB1188_1194.out _; (with_reducible repeat (first | refine blk_drewN ?_ _ | refine blk_drew ?_ | refine blk_alloc ?_ _)); refine blk_far ?_ NB1188_1194.out _; (with_reducible repeat (first | refine blk_drewN ?_ _ | refine blk_drew ?_ | refine blk_alloc ?_ _)); exact BK1188.out) hb); have n7_ := Aside0.mk (blk_below (g := gb1194) (o := .cells #[.int .i64 t1189, .slice Ao38 t1190.length co38] 28 (0, 0)) (by (with_reducible repeat (first | refine blk_drewN ?_ _ | refine blk_drew ?_ | refine blk_alloc ?_ _)); refine blk_put (cs := #[.int .i64 t1189, .slice none 0 0]) ?_ 1 _ rfl; (with_reducible repeat (first | refine blk_drewN ?_ _ | refine blk_drew ?_ | refine blk_alloc ?_ _)); refine blk_put (cs := #[.int .i64 0, .slice none 0 0]) ?_ 0 _ rfl; (with_reducible repeat (first | refine blk_drewN ?_ _ | refine blk_drew ?_ | refine blk_alloc ?_ _)); exact BK1194.out) hb); have n8_ := Aside0.mk (below_step (by repeat (first | (with_reducible first | exact HB.out | apply below_alloc | apply pw_below_drewN | apply below_drew1 | refine below_set ?_ GE1174.out | refine below_set ?_ GE1184.out | refine below_set ?_ GE1188.out | refine below_set ?_ GE1194.out) | exact HB.out)) hb); clear HO1178; clear HO1182; clear HO1187; clear HO1192; clear BK1174; clear BK1184; clear BK1188; clear BK1194; clear HB; have HO1178 := n0_; have HO1182 := n1_; have HO1187 := n2_; have HO1192 := n3_; have BK1174 := n4_; have BK1184 := n5_; have BK1188 := n6_; have BK1194 := n7_; have HB := n8_; clear n0_ n1_ n2_ n3_ n4_ n5_ n6_ n7_ n8_; (try clear hb); (try clear hb2); (try clear hk); (try clear hi)))
        go_meet
        case rel => exact ⟨_, ((t1193 != t1183)), (by first | rfl | (simp; done) | (simp [*]; done)), H', ⟨by first | omega | exact Nat.le_refl _⟩, ⟨by (with_reducible repeat (first | apply Kd.R_alloc | apply Kd.R_drewN | apply Kd.R_drew)); exact Kd.R_mono HO1182.out (fun _ hk => ⟨hk.1.2, hk.2⟩)⟩, ⟨by (with_reducible repeat (first | apply Kd.R_alloc | apply Kd.R_drewN | apply Kd.R_drew)); exact Kd.R_mono HO1187.out (fun _ hk => ⟨hk.1.2, hk.2⟩)⟩, ⟨by (with_reducible repeat (first | apply Kd.R_alloc | apply Kd.R_drewN | apply Kd.R_drew)); exact Kd.R_mono HO1192.out (fun _ hk => ⟨hk.1.2, hk.2⟩)⟩, ⟨by (with_reducible repeat (first | refine blk_drewN ?_ _ | refine blk_drew ?_ | refine blk_alloc ?_ _)); exact BK1174.out⟩, ⟨by (with_reducible repeat (first | refine blk_drewN ?_ _ | refine blk_drew ?_ | refine blk_alloc ?_ _)); exact BK1184.out⟩, ⟨by (with_reducible repeat (first | refine blk_drewN ?_ _ | refine blk_drew ?_ | refine blk_alloc ?_ _)); exact BK1188.out⟩, ⟨by (with_reducible repeat (first | refine blk_drewN ?_ _ | refine blk_drew ?_ | refine blk_alloc ?_ _)); exact BK1194.out⟩, ⟨by repeat (first | (with_reducible first | exact HB.out | apply below_alloc | apply pw_below_drewN | apply below_drew1 | refine below_set ?_ GE1174.out | refine below_set ?_ GE1184.out | refine below_set ?_ GE1188.out | refine below_set ?_ GE1194.out) | exact HB.out)⟩⟩
      · replace c40 := Bool.eq_false_iff.mpr c40
        subst c40
        have H1 : (laws_FnExactTreeSpace.j0 k t1183 t1193 true l0_0 t1179 t1180 t1185 t1189 t1190) = some r := by rw [if_neg (show ¬ (false = true) by decide)] at H; exact H
        clear H
        have H := H1
        clear H1
        have H' := Aside0.mk H
        clear H
        have hnb49 := NB1194_1174.out
        have hnc49 := NB1174_1194.out
        have hnb50 := NB1194_1184.out
        have hnc50 := NB1184_1194.out
        have hnb51 := NB1194_1188.out
        have hnc51 := NB1188_1194.out
        have hcz52_0 : w33.cell? ⟨gb1194, 0, none⟩ = some (.int .i64 0) := (blk_cell BK1194.out 0).trans rfl
        have hcz52_1 : w33.cell? ⟨gb1194, 1, none⟩ = some (.slice none 0 0) := (blk_cell BK1194.out 1).trans rfl
        have hfz52_0 := blk_frozen BK1194.out 0
        have hfz52_1 := blk_frozen BK1194.out 1
        have hnb53 := NB1184_1174.out
        have hnc53 := NB1174_1184.out
        have hnb54 := NB1184_1188.out
        have hnc54 := NB1188_1184.out
        have hcz55_0 : w33.cell? ⟨gb1184, 0, none⟩ = some (.int .i64 t1179) := (blk_cell BK1184.out 0).trans rfl
        have hcz55_1 : w33.cell? ⟨gb1184, 1, none⟩ = some (.slice Ao22 t1180.length co22) := (blk_cell BK1184.out 1).trans rfl
        have hfz55_0 := blk_frozen BK1184.out 0
        have hfz55_1 := blk_frozen BK1184.out 1
        go_wp2_with (first | ((with_reducible refine gate_callee (f := 19) rfl ?_); refine goesL_ (some 34) rfl rfl Try.func19 (by kernel_rfl) rfl #[.agg #[.int .i64 t1189, .slice Ao38 t1190.length co38], .agg #[.int .i64 t1179, .slice Ao22 t1180.length co22]] rfl (by (try simp only [List.map_toArray, List.map_cons, List.map_nil]); first | done | rfl | (simp only [List.length_drop, List.length_take]; rfl)) ?_; (with_reducible refine (laws_eqSpace.calls k t1189 _ _ t1190 t1179 _ _ t1180 false _ ?side1 ?side2 ?side3 ?side4 A39.out).mono ?_); (case side1 => refine (Kd.R_reads' (e := 3) (base := w.heap.size) (ok := fun k_ => (((True ∧ some k_ ≠ (.slice Ao17 t1176.length co17 : Value).ownBlock) ∧ some k_ ≠ (.slice Ao22 t1180.length co22 : Value).ownBlock) ∧ some k_ ≠ (.slice Ao26 t1185.length co26 : Value).ownBlock)) (n := t1190.length) (c := co38) ?_).2.2; exact (by (with_reducible repeat (first | apply Kd.R_alloc | apply Kd.R_drewN | apply Kd.R_drew)); exact (Kd.R_mono (Kd.R_far (p := ⟨gb1194, 1, none⟩) (Kd.R_far (p := ⟨gb1194, 0, none⟩) (Kd.R_types HO1192.out BK1194.out (by decide)) (fun _ hk => hk.2) (.int .i64 t1189)) (fun _ hk => hk.2) (.slice Ao38 t1190.length co38)) (fun _ h_ => h_.1)))); (case side2 => exact (Kd.R_reads' HO1192.out).2.1); (case side3 => refine (Kd.R_reads' (e := 3) (base := w.heap.size) (ok := fun k_ => ((some k_ ≠ (.slice Ao17 t1176.length co17 : Value).ownBlock ∧ some k_ ≠ (.slice Ao26 t1185.length co26 : Value).ownBlock) ∧ some k_ ≠ (.slice Ao38 t1190.length co38 : Value).ownBlock)) (n := t1180.length) (c := co22) ?_).2.2; exact (by (with_reducible repeat (first | apply Kd.R_alloc | apply Kd.R_drewN | apply Kd.R_drew)); exact (Kd.R_mono (Kd.R_far (p := ⟨gb1194, 1, none⟩) (Kd.R_far (p := ⟨gb1194, 0, none⟩) (Kd.R_types HO1182.out BK1194.out (by decide)) (fun _ hk => hk.2) (.int .i64 t1189)) (fun _ hk => hk.2) (.slice Ao38 t1190.length co38)) (fun _ h_ => h_.1)))); (case side4 => exact (Kd.R_reads' HO1182.out).2.1); rintro e w56 ⟨rfl, hb⟩; refine ⟨_, rfl, ?_⟩; have n0_ := Aside0.mk (Kd.R_below (by (with_reducible repeat (first | apply Kd.R_alloc | apply Kd.R_drewN | apply Kd.R_drew)); exact (Kd.R_mono (Kd.R_far (p := ⟨gb1194, 1, none⟩) (Kd.R_far (p := ⟨gb1194, 0, none⟩) (Kd.R_types HO1178.out BK1194.out (by decide)) (fun _ hk => hk.2) (.int .i64 t1189)) (fun _ hk => hk.2) (.slice Ao38 t1190.length co38)) (fun _ h_ => h_.1))) hb); have n1_ := Aside0.mk (Kd.R_below (by (with_reducible repeat (first | apply Kd.R_alloc | apply Kd.R_drewN | apply Kd.R_drew)); exact (Kd.R_mono (Kd.R_far (p := ⟨gb1194, 1, none⟩) (Kd.R_far (p := ⟨gb1194, 0, none⟩) (Kd.R_types HO1182.out BK1194.out (by decide)) (fun _ hk => hk.2) (.int .i64 t1189)) (fun _ hk => hk.2) (.slice Ao38 t1190.length co38)) (fun _ h_ => h_.1))) hb); have n2_ := Aside0.mk (Kd.R_below (by (with_reducible repeat (first | apply Kd.R_alloc | apply Kd.R_drewN | apply Kd.R_drew)); exact (Kd.R_mono (Kd.R_far (p := ⟨gb1194, 1, none⟩) (Kd.R_far (p := ⟨gb1194, 0, none⟩) (Kd.R_types HO1187.out BK1194.out (by decide)) (fun _ hk => hk.2) (.int .i64 t1189)) (fun _ hk => hk.2) (.slice Ao38 t1190.length co38)) (fun _ h_ => h_.1))) hb); have n3_ := Aside0.mk (Kd.R_below (by (with_reducible repeat (first | apply Kd.R_alloc | apply Kd.R_drewN | apply Kd.R_drew)); exact (Kd.R_mono (Kd.R_far (p := ⟨gb1194, 1, none⟩) (Kd.R_far (p := ⟨gb1194, 0, none⟩) (Kd.R_types HO1192.out BK1194.out (by decide)) (fun _ hk => hk.2) (.int .i64 t1189)) (fun _ hk => hk.2) (.slice Ao38 t1190.length co38)) (fun _ h_ => h_.1))) hb); have n4_ := Aside0.mk (blk_below (g := gb1174) (o := .cells #[.slice A0_0 l0_0.length c0_0] 55 (0, 0)) (by (with_reducible repeat (first | refine blk_drewN ?_ _ | refine blk_drew ?_ | refine blk_alloc ?_ _)); refine blk_far ?_ NB1174_1194.out _; (with_reducible repeat (first | refine blk_drewN ?_ _ | refine blk_drew ?_ | refine blk_alloc ?_ _)); refine blk_far ?_ NB1174_1194.out _; (with_reducible repeat (first | refine blk_drewN ?_ _ | refine blk_drew ?_ | refine blk_alloc ?_ _)); exact BK1174.out) hb); have n5_ := Aside0.mk (blk_below (g := gb1184) (o := .cells #[.int .i64 t1179, .slice Ao22 t1180.length co22] 28 (0, 0)) (by (with_reducible repeat (first | refine blk_drewN ?_ _ | refine blk_drew ?_ | refine blk_alloc ?_ _)); refine blk_far ?_ NB1184_1194.out _; (with_reducible repeat (first | refine blk_drewN ?_ _ | refine blk_drew ?_ | refine blk_alloc ?_ _)); refine blk_far ?_ NB1184_1194.out _; (with_reducible repeat (first | refine blk_drewN ?_ _ | refine blk_drew ?_ | refine blk_alloc ?_ _)); exact BK1184.out) hb); have n6_ := Aside0.mk (blk_below (g := gb1188) (o := .cells #[.slice Ao26 t1185.length co26] 58 (0, 0)) (by (with_reducible repeat (first | refine blk_drewN ?_ _ | refine blk_drew ?_ | refine blk_alloc ?_ _)); refine blk_far ?_ NB1188_1194.out _; (with_reducible repeat (first | refine blk_drewN ?_ _ | refine blk_drew ?_ | refine blk_alloc ?_ _)); refine blk_far ?_ NB1188_1194.out _; (with_reducible repeat (first | refine blk_drewN ?_ _ | refine blk_drew ?_ | refine blk_alloc ?_ _)); exact BK1188.out) hb); have n7_ := Aside0.mk (blk_below (g := gb1194) (o := .cells #[.int .i64 t1189, .slice Ao38 t1190.length co38] 28 (0, 0)) (by (with_reducible repeat (first | refine blk_drewN ?_ _ | refine blk_drew ?_ | refine blk_alloc ?_ _)); refine blk_put (cs := #[.int .i64 t1189, .slice none 0 0]) ?_ 1 _ rfl; (with_reducible repeat (first | refine blk_drewN ?_ _ | refine blk_drew ?_ | refine blk_alloc ?_ _)); refine blk_put (cs := #[.int .i64 0, .slice none 0 0]) ?_ 0 _ rfl; (with_reducible repeat (first | refine blk_drewN ?_ _ | refine blk_drew ?_ | refine blk_alloc ?_ _)); exact BK1194.out) hb); have n8_ := Aside0.mk (below_step (by repeat (first | (with_reducible first | exact HB.out | apply below_alloc | apply pw_below_drewN | apply below_drew1 | refine below_set ?_ GE1174.out | refine below_set ?_ GE1184.out | refine below_set ?_ GE1188.out | refine below_set ?_ GE1194.out) | exact HB.out)) hb); clear HO1178; clear HO1182; clear HO1187; clear HO1192; clear BK1174; clear BK1184; clear BK1188; clear BK1194; clear HB; have HO1178 := n0_; have HO1182 := n1_; have HO1187 := n2_; have HO1192 := n3_; have BK1174 := n4_; have BK1184 := n5_; have BK1188 := n6_; have BK1194 := n7_; have HB := n8_; clear n0_ n1_ n2_ n3_ n4_ n5_ n6_ n7_ n8_; (try clear hb); (try clear hb2); (try clear hk); (try clear hi)))
        go_meet
        case rel => exact ⟨_, (true), (by first | rfl | (simp; done) | (simp [*]; done)), H', ⟨by first | omega | exact Nat.le_refl _⟩, ⟨by (with_reducible repeat (first | apply Kd.R_alloc | apply Kd.R_drewN | apply Kd.R_drew)); exact Kd.R_mono HO1182.out (fun _ hk => ⟨hk.1.2, hk.2⟩)⟩, ⟨by (with_reducible repeat (first | apply Kd.R_alloc | apply Kd.R_drewN | apply Kd.R_drew)); exact Kd.R_mono HO1187.out (fun _ hk => ⟨hk.1.2, hk.2⟩)⟩, ⟨by (with_reducible repeat (first | apply Kd.R_alloc | apply Kd.R_drewN | apply Kd.R_drew)); exact Kd.R_mono HO1192.out (fun _ hk => ⟨hk.1.2, hk.2⟩)⟩, ⟨by (with_reducible repeat (first | refine blk_drewN ?_ _ | refine blk_drew ?_ | refine blk_alloc ?_ _)); exact BK1174.out⟩, ⟨by (with_reducible repeat (first | refine blk_drewN ?_ _ | refine blk_drew ?_ | refine blk_alloc ?_ _)); exact BK1184.out⟩, ⟨by (with_reducible repeat (first | refine blk_drewN ?_ _ | refine blk_drew ?_ | refine blk_alloc ?_ _)); exact BK1188.out⟩, ⟨by (with_reducible repeat (first | refine blk_drewN ?_ _ | refine blk_drew ?_ | refine blk_alloc ?_ _)); exact BK1194.out⟩, ⟨by repeat (first | (with_reducible first | exact HB.out | apply below_alloc | apply pw_below_drewN | apply below_drew1 | refine below_set ?_ GE1174.out | refine below_set ?_ GE1184.out | refine below_set ?_ GE1188.out | refine below_set ?_ GE1194.out) | exact HB.out)⟩⟩
    case rest =>
      clear HC11
      try clear c1
      try clear c2
      try clear p2
      try clear c3
      try clear c3b0
      try clear c4
      try clear c5
      try clear c13
      try clear c19
      try clear c20
      try clear c27
      try clear c28
      try clear c34
      try clear c35
      try clear c36
      try clear c40
      try clear c41
      try clear c42
      try clear c43
      try clear c45
      try clear c46
      try clear c49
      try clear c50
      try clear c51
      try clear c53
      try clear c54
      try clear hcz13_0
      try clear hcz15_0
      try clear hcz21_0
      try clear hcz21_1
      try clear hcz23_0
      try clear hcz29_0
      try clear hcz31_0
      try clear hcz37_0
      try clear hcz37_1
      try clear hcz44_0
      try clear hcz44_1
      try clear hcz47_0
      try clear hcz47_1
      try clear hcz52_0
      try clear hcz52_1
      try clear hcz55_0
      try clear hcz55_1
      try clear hcz5_0
      try clear hfz13_0
      try clear hfz15_0
      try clear hfz21_0
      try clear hfz21_1
      try clear hfz23_0
      try clear hfz29_0
      try clear hfz31_0
      try clear hfz37_0
      try clear hfz37_1
      try clear hfz44_0
      try clear hfz44_1
      try clear hfz47_0
      try clear hfz47_1
      try clear hfz52_0
      try clear hfz52_1
      try clear hfz55_0
      try clear hfz55_1
      try clear hfz5_0
      obtain ⟨kq, x40_10, rfl, HA, HJ10, HO_1185001, HO_1189000, HO_1195001, BK1174, BK1184, BK1188, BK1194, HB⟩ := hcut
      cases kq with
      | zero => exact absurd HA.out (by simp [laws_FnExactTreeSpace.j0])
      | succ kj10 =>
        have H := HA.out
        clear HA
        simp only [laws_FnExactTreeSpace.j0] at H
        by_cases c57 : x40_10 = true
        · subst c57
          have H1 : (some false) = some r := by rw [if_pos rfl] at H; exact H
          clear H
          have H := H1
          clear H1
          obtain rfl := Option.some.inj H
          go_wp2
          go_ret
          exact ⟨by first | rfl | (simp [errW_none, errW_some] <;> rfl) | (simp [*, errW_none, errW_some] <;> rfl), by repeat (first | (with_reducible first | exact HB.out | apply below_alloc | apply pw_below_drewN | apply below_drew1 | refine below_set ?_ GE1174.out | refine below_set ?_ GE1184.out | refine below_set ?_ GE1188.out | refine below_set ?_ GE1194.out) | exact HB.out)⟩
        · replace c57 := Bool.eq_false_iff.mpr c57
          subst c57
          have H1 : ((laws_toNet.f kj10 l0_0).bind fun t1196 => ((laws_eqNet.f kj10 t1185 t1196).bind fun t1199 => (if t1199 = true then ((laws_markNet.f kj10 t1185 1).bind fun bt1200 => (if bt1200.1 < 0 then (laws_FnExactTreeSpace.j1 kj10 t1183 true l0_0 t1179 t1180 t1189 t1190) else ((laws_eqSpace.f kj10 t1189 t1190 t1179 t1180).bind fun t1202 => (if t1202 = true then (laws_FnExactTreeSpace.j1 kj10 t1183 (t1193 != t1183) l0_0 t1179 t1180 t1189 t1190) else (laws_FnExactTreeSpace.j1 kj10 t1183 true l0_0 t1179 t1180 t1189 t1190))))) else (some false)))) = some r := by rw [if_neg (show ¬ (false = true) by decide)] at H; exact H
          clear H
          have H := H1
          clear H1
          replace H := Option.bind_eq_some_iff.mp H
          obtain ⟨t1196, A580, H⟩ := H
          replace H : ((laws_eqNet.f kj10 t1185 t1196).bind fun t1199 => (if t1199 = true then ((laws_markNet.f kj10 t1185 1).bind fun bt1200 => (if bt1200.1 < 0 then (laws_FnExactTreeSpace.j1 kj10 t1183 true l0_0 t1179 t1180 t1189 t1190) else ((laws_eqSpace.f kj10 t1189 t1190 t1179 t1180).bind fun t1202 => (if t1202 = true then (laws_FnExactTreeSpace.j1 kj10 t1183 (t1193 != t1183) l0_0 t1179 t1180 t1189 t1190) else (laws_FnExactTreeSpace.j1 kj10 t1183 true l0_0 t1179 t1180 t1189 t1190))))) else (some false))) = some r := H
          have A58 := Aside0.mk A580
          clear A580
          replace H := Option.bind_eq_some_iff.mp H
          obtain ⟨t1199, A590, H⟩ := H
          replace H : (if t1199 = true then ((laws_markNet.f kj10 t1185 1).bind fun bt1200 => (if bt1200.1 < 0 then (laws_FnExactTreeSpace.j1 kj10 t1183 true l0_0 t1179 t1180 t1189 t1190) else ((laws_eqSpace.f kj10 t1189 t1190 t1179 t1180).bind fun t1202 => (if t1202 = true then (laws_FnExactTreeSpace.j1 kj10 t1183 (t1193 != t1183) l0_0 t1179 t1180 t1189 t1190) else (laws_FnExactTreeSpace.j1 kj10 t1183 true l0_0 t1179 t1180 t1189 t1190))))) else (some false)) = some r := H
          have A59 := Aside0.mk A590
          clear A590
          by_cases c60 : t1199 = true
          · subst c60
            have H1 : ((laws_markNet.f kj10 t1185 1).bind fun bt1200 => (if bt1200.1 < 0 then (laws_FnExactTreeSpace.j1 kj10 t1183 true l0_0 t1179 t1180 t1189 t1190) else ((laws_eqSpace.f kj10 t1189 t1190 t1179 t1180).bind fun t1202 => (if t1202 = true then (laws_FnExactTreeSpace.j1 kj10 t1183 (t1193 != t1183) l0_0 t1179 t1180 t1189 t1190) else (laws_FnExactTreeSpace.j1 kj10 t1183 true l0_0 t1179 t1180 t1189 t1190))))) = some r := by rw [if_pos rfl] at H; exact H
            clear H
            have H := H1
            clear H1
            replace H := Option.bind_eq_some_iff.mp H
            obtain ⟨⟨t1200, t1201⟩, A610, H⟩ := H
            replace H : (if t1200 < 0 then (laws_FnExactTreeSpace.j1 kj10 t1183 true l0_0 t1179 t1180 t1189 t1190) else ((laws_eqSpace.f kj10 t1189 t1190 t1179 t1180).bind fun t1202 => (if t1202 = true then (laws_FnExactTreeSpace.j1 kj10 t1183 (t1193 != t1183) l0_0 t1179 t1180 t1189 t1190) else (laws_FnExactTreeSpace.j1 kj10 t1183 true l0_0 t1179 t1180 t1189 t1190)))) = some r := H
            have A61 := Aside0.mk A610
            clear A610
            have HC62 := Aside0.mk H
            clear H
            try go_wp2
            have n0_ := Aside0.mk (Kd.R_drew HO_1185001.out)
            have n1_ := Aside0.mk (Kd.R_drew HO_1189000.out)
            have n2_ := Aside0.mk (Kd.R_drew HO_1195001.out)
            have n3_ := Aside0.mk (blk_drew BK1174.out)
            have n4_ := Aside0.mk (blk_drew BK1184.out)
            have n5_ := Aside0.mk (blk_drew BK1188.out)
            have n6_ := Aside0.mk (blk_drew BK1194.out)
            have n7_ := Aside0.mk (below_drew1 HB.out)
            clear HO_1185001
            clear HO_1189000
            clear HO_1195001
            clear BK1174
            clear BK1184
            clear BK1188
            clear BK1194
            clear HB
            have HO_1185001 := n0_
            have HO_1189000 := n1_
            have HO_1195001 := n2_
            have BK1174 := n3_
            have BK1184 := n4_
            have BK1188 := n5_
            have BK1194 := n6_
            have HB := n7_
            clear n0_ n1_ n2_ n3_ n4_ n5_ n6_ n7_
            refine start_ (n := 5) (S := fun w' => w'.cell? ⟨gb1188, 0, none⟩ = some (.slice Ao26 t1185.length co26) ∧ w'.cell? ⟨gb1174, 0, none⟩ = some (.slice A0_0 l0_0.length c0_0)) (ds := []) #[false, false, false, false, false] (by kernel_rfl) rfl rfl ⟨(blk_cell BK1188.out 0).trans rfl, (blk_cell BK1174.out 0).trans rfl⟩ (fun hHeld => ?_)
            generalize wc.drew = w63 at HO_1185001 HO_1189000 HO_1195001 BK1174 BK1184 BK1188 BK1194 HB hHeld ⊢
            refine take_ (i := 0) (N := some 41) (v := ?_) (a' := ?_) #[true, false, false, false, false] rfl rfl (by kernel_rfl) (fun _ _ _ h => h) (Or.inl ⟨by rfl, ?_⟩) hHeld ?_ ?_
            rotate_left
            · rintro w' ⟨s0, s1⟩
              go_simp
              with_reducible rfl
            rotate_left
            · simp only [Act.put, List.setIfInBounds_toArray, List.set_cons_zero, List.set_cons_succ, i64_w, i32_w]
              rfl
            refine take_ (i := 1) (N := some 42) (v := ?_) (a' := ?_) #[true, true, false, false, false] rfl rfl (by kernel_rfl) (fun _ _ _ h => h) (Or.inl ⟨by rfl, ?_⟩) hHeld ?_ ?_
            rotate_left
            · rintro w' ⟨s0, s1⟩
              go_simp
              with_reducible rfl
            rotate_left
            · simp only [Act.put, List.setIfInBounds_toArray, List.set_cons_zero, List.set_cons_succ, i64_w, i32_w]
              rfl
            refine one_ (i := 2) (N := some 43) #[true, true, true, false, false] rfl rfl (by kernel_rfl) (by decide) (fun K hK => ?_)
            refine goes_ Try.func45 (by kernel_rfl) rfl #[.agg #[.slice A0_0 l0_0.length c0_0]] (by rfl) rfl rfl (by (try simp only [List.map_toArray, List.map_cons, List.map_nil]); first | done | rfl | (simp only [List.length_drop, List.length_take]; rfl)) ?_
            with_reducible refine (laws_toNet.calls kj10 _ _ l0_0 t1196 _ ?side1 ?side2 A58.out).mono ?_
            (case side1 => repeat (first | exact (Kd.C_below HR0_0.out HB.out) | (with_reducible refine Kd.C_alloc ?_ _) | (with_reducible refine Kd.C_drewN ?_ _) | (with_reducible refine Kd.C_drew ?_)))
            (case side2 => exact HC0_0.out)
            rintro e w64 ⟨v1197, rfl, ho0, hb⟩
            refine ⟨_, rfl, ?_⟩
            have n0_ := Aside0.mk (Kd.R_elder' (by (with_reducible repeat (first | apply Kd.R_alloc | apply Kd.R_drewN | apply Kd.R_drew)); exact HO_1185001.out) (Kd.R_base ho0) hb)
            have n1_ := Aside0.mk (Kd.R_elder' (by (with_reducible repeat (first | apply Kd.R_alloc | apply Kd.R_drewN | apply Kd.R_drew)); exact HO_1189000.out) (Kd.R_base ho0) hb)
            have n2_ := Aside0.mk (Kd.R_elder' (by (with_reducible repeat (first | apply Kd.R_alloc | apply Kd.R_drewN | apply Kd.R_drew)); exact HO_1195001.out) (Kd.R_base ho0) hb)
            have n3_ := Aside0.mk (Kd.R_lower (Kd.R_new' (Kd.R_new' (Kd.R_new' ho0 (Kd.R_lt (by (with_reducible repeat (first | apply Kd.R_alloc | apply Kd.R_drewN | apply Kd.R_drew)); exact HO_1185001.out))) (Kd.R_lt (by (with_reducible repeat (first | apply Kd.R_alloc | apply Kd.R_drewN | apply Kd.R_drew)); exact HO_1189000.out))) (Kd.R_lt (by (with_reducible repeat (first | apply Kd.R_alloc | apply Kd.R_drewN | apply Kd.R_drew)); exact HO_1195001.out))) (below_size (by repeat (first | (with_reducible first | exact HB.out | apply below_alloc | apply pw_below_drewN | apply below_drew1 | refine below_set ?_ GE1174.out | refine below_set ?_ GE1184.out | refine below_set ?_ GE1188.out | refine below_set ?_ GE1194.out) | exact HB.out))))
            have n4_ := Aside0.mk (blk_below (g := gb1174) (o := .cells #[.slice A0_0 l0_0.length c0_0] 55 (0, 0)) (by (with_reducible repeat (first | refine blk_drewN ?_ _ | refine blk_drew ?_ | refine blk_alloc ?_ _)); exact BK1174.out) hb)
            have n5_ := Aside0.mk (blk_below (g := gb1184) (o := .cells #[.int .i64 t1179, .slice Ao22 t1180.length co22] 28 (0, 0)) (by (with_reducible repeat (first | refine blk_drewN ?_ _ | refine blk_drew ?_ | refine blk_alloc ?_ _)); exact BK1184.out) hb)
            have n6_ := Aside0.mk (blk_below (g := gb1188) (o := .cells #[.slice Ao26 t1185.length co26] 58 (0, 0)) (by (with_reducible repeat (first | refine blk_drewN ?_ _ | refine blk_drew ?_ | refine blk_alloc ?_ _)); exact BK1188.out) hb)
            have n7_ := Aside0.mk (blk_below (g := gb1194) (o := .cells #[.int .i64 t1189, .slice Ao38 t1190.length co38] 28 (0, 0)) (by (with_reducible repeat (first | refine blk_drewN ?_ _ | refine blk_drew ?_ | refine blk_alloc ?_ _)); exact BK1194.out) hb)
            have n8_ := Aside0.mk (below_step (by repeat (first | (with_reducible first | exact HB.out | apply below_alloc | apply pw_below_drewN | apply below_drew1 | refine below_set ?_ GE1174.out | refine below_set ?_ GE1184.out | refine below_set ?_ GE1188.out | refine below_set ?_ GE1194.out) | exact HB.out)) hb)
            clear HO_1185001
            clear HO_1189000
            clear HO_1195001
            clear BK1174
            clear BK1184
            clear BK1188
            clear BK1194
            clear HB
            have HO_1185001 := n0_
            have HO_1189000 := n1_
            have HO_1195001 := n2_
            have HO1198 := n3_
            have BK1174 := n4_
            have BK1184 := n5_
            have BK1188 := n6_
            have BK1194 := n7_
            have HB := n8_
            clear n0_ n1_ n2_ n3_ n4_ n5_ n6_ n7_ n8_
            (try clear hb)
            (try clear hb2)
            (try clear hk)
            (try clear hi)
            (try clear ho0)
            obtain ⟨Ao65, co65, eo65⟩ := Kd.R_slice HO1198.out
            (first | subst eo65 | (injection eo65 with f1_ f2_ f3_; have f4_ := f1_.symm; have f5_ := f3_.symm; clear f1_ f2_ f3_; subst f4_; subst f5_))
            refine hK.out _ _ ⟨(blk_cell BK1188.out 0).trans rfl, (blk_cell BK1174.out 0).trans rfl⟩ (fun hHeld => ?_)
            clear hK K
            refine norm_ (a' := ?_) ?_ ?_
            rotate_left
            · show Act.put _ (some 43) _ = _
              simp only [Act.put, List.setIfInBounds_toArray, List.set_cons_zero, List.set_cons_succ, i64_w, i32_w]
              rfl
            refine one_ (i := 3) (N := some 44) #[true, true, true, true, false] rfl rfl (by kernel_rfl) (by decide) (fun K hK => ?_)
            refine goes_ Try.func47 (by kernel_rfl) rfl #[.agg #[.slice Ao26 t1185.length co26], .agg #[.slice Ao65 t1196.length co65]] (by rfl) rfl rfl (by (try simp only [List.map_toArray, List.map_cons, List.map_nil]); first | done | rfl | (simp only [List.length_drop, List.length_take]; rfl)) ?_
            with_reducible refine (laws_eqNet.calls kj10 _ _ t1185 _ _ t1196 true _ ?side1 ?side2 ?side3 ?side4 A59.out).mono ?_
            (case side1 => repeat (first | exact (Kd.R_reads' HO_1189000.out).2.2 | (with_reducible refine Kd.C_alloc ?_ _) | (with_reducible refine Kd.C_drewN ?_ _) | (with_reducible refine Kd.C_drew ?_)))
            (case side2 => exact (Kd.R_reads' HO_1189000.out).2.1)
            (case side3 => repeat (first | exact (Kd.R_reads' HO1198.out).2.2 | (with_reducible refine Kd.C_alloc ?_ _) | (with_reducible refine Kd.C_drewN ?_ _) | (with_reducible refine Kd.C_drew ?_)))
            (case side4 => exact (Kd.R_reads' HO1198.out).2.1)
            rintro e w66 ⟨rfl, hb⟩
            refine ⟨_, rfl, ?_⟩
            have n0_ := Aside0.mk (Kd.R_below (by (with_reducible repeat (first | apply Kd.R_alloc | apply Kd.R_drewN | apply Kd.R_drew)); exact HO_1185001.out) hb)
            have n1_ := Aside0.mk (Kd.R_below (by (with_reducible repeat (first | apply Kd.R_alloc | apply Kd.R_drewN | apply Kd.R_drew)); exact HO_1189000.out) hb)
            have n2_ := Aside0.mk (Kd.R_below (by (with_reducible repeat (first | apply Kd.R_alloc | apply Kd.R_drewN | apply Kd.R_drew)); exact HO_1195001.out) hb)
            have n3_ := Aside0.mk (Kd.R_below (by (with_reducible repeat (first | apply Kd.R_alloc | apply Kd.R_drewN | apply Kd.R_drew)); exact HO1198.out) hb)
            have n4_ := Aside0.mk (blk_below (g := gb1174) (o := .cells #[.slice A0_0 l0_0.length c0_0] 55 (0, 0)) (by (with_reducible repeat (first | refine blk_drewN ?_ _ | refine blk_drew ?_ | refine blk_alloc ?_ _)); exact BK1174.out) hb)
            have n5_ := Aside0.mk (blk_below (g := gb1184) (o := .cells #[.int .i64 t1179, .slice Ao22 t1180.length co22] 28 (0, 0)) (by (with_reducible repeat (first | refine blk_drewN ?_ _ | refine blk_drew ?_ | refine blk_alloc ?_ _)); exact BK1184.out) hb)
            have n6_ := Aside0.mk (blk_below (g := gb1188) (o := .cells #[.slice Ao26 t1185.length co26] 58 (0, 0)) (by (with_reducible repeat (first | refine blk_drewN ?_ _ | refine blk_drew ?_ | refine blk_alloc ?_ _)); exact BK1188.out) hb)
            have n7_ := Aside0.mk (blk_below (g := gb1194) (o := .cells #[.int .i64 t1189, .slice Ao38 t1190.length co38] 28 (0, 0)) (by (with_reducible repeat (first | refine blk_drewN ?_ _ | refine blk_drew ?_ | refine blk_alloc ?_ _)); exact BK1194.out) hb)
            have n8_ := Aside0.mk (below_step (by repeat (first | (with_reducible first | exact HB.out | apply below_alloc | apply pw_below_drewN | apply below_drew1 | refine below_set ?_ GE1174.out | refine below_set ?_ GE1184.out | refine below_set ?_ GE1188.out | refine below_set ?_ GE1194.out) | exact HB.out)) hb)
            clear HO_1185001
            clear HO_1189000
            clear HO_1195001
            clear HO1198
            clear BK1174
            clear BK1184
            clear BK1188
            clear BK1194
            clear HB
            have HO_1185001 := n0_
            have HO_1189000 := n1_
            have HO_1195001 := n2_
            have HO1198 := n3_
            have BK1174 := n4_
            have BK1184 := n5_
            have BK1188 := n6_
            have BK1194 := n7_
            have HB := n8_
            clear n0_ n1_ n2_ n3_ n4_ n5_ n6_ n7_ n8_
            (try clear hb)
            (try clear hb2)
            (try clear hk)
            (try clear hi)
            refine hK.out _ _ ⟨(blk_cell BK1188.out 0).trans rfl, (blk_cell BK1174.out 0).trans rfl⟩ (fun hHeld => ?_)
            clear hK K
            refine norm_ (a' := ?_) ?_ ?_
            rotate_left
            · show Act.put _ (some 44) _ = _
              simp only [Act.put, List.setIfInBounds_toArray, List.set_cons_zero, List.set_cons_succ, i64_w, i32_w]
              rfl
            refine pure_ (i := 4) (N := some 45) (v := ?_) (a' := ?_) #[true, true, true, true, true] rfl rfl (by kernel_rfl) (fun _ _ _ h => h) (Or.inl ⟨by rfl, ?_⟩) ?_ ?_
            rotate_left
            · intro w'
              go_simp
              with_reducible rfl
            rotate_left
            · simp only [Act.put, List.setIfInBounds_toArray, List.set_cons_zero, List.set_cons_succ, i64_w, i32_w]
              rfl
            refine done_ (by kernel_rfl) ?_
            have hnb67 := NB1188_1174.out
            have hnc67 := NB1174_1188.out
            have hnb68 := NB1188_1184.out
            have hnc68 := NB1184_1188.out
            have hnb69 := NB1188_1194.out
            have hnc69 := NB1194_1188.out
            have hcz70_0 : w66.cell? ⟨gb1188, 0, none⟩ = some (.slice Ao26 t1185.length co26) := (blk_cell BK1188.out 0).trans rfl
            have hfz70_0 := blk_frozen BK1188.out 0
            go_upto_region 14 with (first | ((with_reducible refine gate_callee (f := 48) rfl ?_); refine goesL_ (some 48) rfl rfl Try.func48 (by kernel_rfl) rfl #[.agg #[.slice Ao26 t1185.length co26], .int .i64 1] rfl (by (try simp only [List.map_toArray, List.map_cons, List.map_nil]); first | done | rfl | (simp only [List.length_drop, List.length_take]; rfl)) ?_; (with_reducible refine (laws_markNet.calls kj10 (fun k_ => some k_ = (.slice Ao26 t1185.length co26 : Value).ownBlock) (.slice Ao26 t1185.length co26) t1185 1 t1200 t1201 w _ ?side1 ?side2 A61.out).mono ?_); (case side1 => repeat (first | (with_reducible first | exact HB.out | apply below_alloc | apply pw_below_drewN | apply below_drew1 | refine below_set ?_ GE1174.out | refine below_set ?_ GE1184.out | refine below_set ?_ GE1188.out | refine below_set ?_ GE1194.out) | exact HB.out)); (case side2 => exact Kd.R_tight rfl HO_1189000.out); rintro e w71 ⟨rfl, hy0, hb, hkp⟩; refine ⟨_, rfl, ?_⟩; have n0_ := Aside0.mk (Kd.R_mono (ok' := fun k_ => some k_ ≠ (.slice Ao26 t1185.length co26 : Value).ownBlock ∧ some k_ ≠ (.slice Ao38 t1190.length co38 : Value).ownBlock ∧ some k_ ≠ (.slice Ao65 t1196.length co65 : Value).ownBlock) (Kd.R_keptB (HO_1185001.out) hkp (fun k_ hk_ hs_ => (hk_.1.1) hs_)) (fun k_ hk_ => ⟨hk_.1.1.1, hk_.1.1.2, hk_.1.2⟩)); have n1_ := Aside0.mk (Kd.R_reok rfl hy0 (fun k_ e_ => HO_1189000.out.1 k_ e_)); have n2_ := Aside0.mk (Kd.R_mono (ok' := fun k_ => some k_ ≠ (.slice Ao22 t1180.length co22 : Value).ownBlock ∧ some k_ ≠ (.slice Ao26 t1185.length co26 : Value).ownBlock ∧ some k_ ≠ (.slice Ao65 t1196.length co65 : Value).ownBlock) (Kd.R_keptB (HO_1195001.out) hkp (fun k_ hk_ hs_ => (hk_.1.2) hs_)) (fun k_ hk_ => ⟨hk_.1.1.1, hk_.1.1.2, hk_.1.2⟩)); have n3_ := Aside0.mk (blk_kept (by (with_reducible repeat (first | refine blk_drewN ?_ _ | refine blk_drew ?_ | refine blk_alloc ?_ _)); exact BK1174.out) hkp (fun hs_ => (fun e_ => (Kd.R_ne HO_1189000.out BK1174.out (by decide)) e_) hs_)); have n4_ := Aside0.mk (blk_kept (by (with_reducible repeat (first | refine blk_drewN ?_ _ | refine blk_drew ?_ | refine blk_alloc ?_ _)); exact BK1184.out) hkp (fun hs_ => (fun e_ => (Kd.R_ne HO_1189000.out BK1184.out (by decide)) e_) hs_)); have n5_ := Aside0.mk (blk_kept (by (with_reducible repeat (first | refine blk_drewN ?_ _ | refine blk_drew ?_ | refine blk_alloc ?_ _)); exact BK1188.out) hkp (fun hs_ => (fun e_ => (Kd.R_ne HO_1189000.out BK1188.out (by decide)) e_) hs_)); have n6_ := Aside0.mk (blk_kept (by (with_reducible repeat (first | refine blk_drewN ?_ _ | refine blk_drew ?_ | refine blk_alloc ?_ _)); exact BK1194.out) hkp (fun hs_ => (fun e_ => (Kd.R_ne HO_1189000.out BK1194.out (by decide)) e_) hs_)); have n7_ := Aside0.mk (Kd.R_mono (ok' := fun k_ => some k_ ≠ (.slice Ao22 t1180.length co22 : Value).ownBlock ∧ some k_ ≠ (.slice Ao26 t1185.length co26 : Value).ownBlock ∧ some k_ ≠ (.slice Ao38 t1190.length co38 : Value).ownBlock) (Kd.R_keptB (HO1198.out) hkp (fun k_ hk_ hs_ => (hk_.1.2) hs_)) (fun k_ hk_ => ⟨hk_.1.1.1.2, hk_.1.1.2, hk_.1.2⟩)); have n8_ := Aside0.mk (hb); clear HO_1185001; clear HO_1189000; clear HO_1195001; clear BK1174; clear BK1184; clear BK1188; clear BK1194; clear HO1198; clear HB; have HO_1185001 := n0_; have HO_1189000 := n1_; have HO_1195001 := n2_; have BK1174 := n3_; have BK1184 := n4_; have BK1188 := n5_; have BK1194 := n6_; have HO1198 := n7_; have HB := n8_; clear n0_ n1_ n2_ n3_ n4_ n5_ n6_ n7_ n8_; (try clear hb); (try clear hkp); (try clear hy0)))
            (try simp only [Act.put, List.setIfInBounds_toArray, List.set_cons_zero, List.set_cons_succ])
            go_cut [61] (fun v61 wc => ∃ (kq : Nat) (x61_61 : Bool), v61 = .bool x61_61 ∧ Aside0 (laws_FnExactTreeSpace.j1 kq t1183 x61_61 l0_0 t1179 t1180 t1189 t1190 = some r) ∧ Aside0 (kq ≤ kj10) ∧ Aside0 (Kd.R (Kd.int .i64) 3 wc w.heap.size (fun k_ => some k_ ≠ ((.slice Ao26 t1185.length co26) : Value).ownBlock ∧ some k_ ≠ ((.slice Ao38 t1190.length co38) : Value).ownBlock) (.slice Ao22 t1180.length co22) t1180) ∧ Aside0 (Kd.R (Kd.int .i64) 3 wc w.heap.size (fun k_ => some k_ ≠ ((.slice Ao22 t1180.length co22) : Value).ownBlock ∧ some k_ ≠ ((.slice Ao38 t1190.length co38) : Value).ownBlock) (.slice Ao26 t1185.length co26) t1201) ∧ Aside0 (Kd.R (Kd.int .i64) 3 wc w.heap.size (fun k_ => some k_ ≠ ((.slice Ao22 t1180.length co22) : Value).ownBlock ∧ some k_ ≠ ((.slice Ao26 t1185.length co26) : Value).ownBlock) (.slice Ao38 t1190.length co38) t1190) ∧ Aside0 (wc.heap[gb1174]? = some (.cells #[(.slice A0_0 l0_0.length c0_0)] 55 (0, 0))) ∧ Aside0 (wc.heap[gb1184]? = some (.cells #[.int .i64 t1179, (.slice Ao22 t1180.length co22)] 28 (0, 0))) ∧ Aside0 (wc.heap[gb1188]? = some (.cells #[(.slice Ao26 t1185.length co26)] 58 (0, 0))) ∧ Aside0 (wc.heap[gb1194]? = some (.cells #[.int .i64 t1189, (.slice Ao38 t1190.length co38)] 28 (0, 0))) ∧ Aside0 (Below w.heap.size w wc))
            case first =>
              have H := HC62.out
              clear HC62
              by_cases c72 : t1200 < 0
              · rw [if_pos c72] at H
                have c72b0 : decide (t1200 < 0) = true := decide_eq_true c72
                clear c72
                (first | rw [c72b0] | (simp only [i64_w, i32_w]; rw [c72b0]) | skip)
                have H' := Aside0.mk H
                clear H
                go_wp2
                go_meet
                case rel => exact ⟨_, (true), (by first | rfl | (simp; done) | (simp [*]; done)), H', ⟨by have := HJ10.out; first | omega | exact Nat.le_refl _⟩, ⟨by (with_reducible repeat (first | apply Kd.R_alloc | apply Kd.R_drewN | apply Kd.R_drew)); exact Kd.R_mono HO_1185001.out (fun _ hk => ⟨hk.1, hk.2.1⟩)⟩, ⟨by (with_reducible repeat (first | apply Kd.R_alloc | apply Kd.R_drewN | apply Kd.R_drew)); exact Kd.R_mono HO_1189000.out (fun _ hk => ⟨hk.1.1, hk.1.2⟩)⟩, ⟨by (with_reducible repeat (first | apply Kd.R_alloc | apply Kd.R_drewN | apply Kd.R_drew)); exact Kd.R_mono HO_1195001.out (fun _ hk => ⟨hk.1, hk.2.1⟩)⟩, ⟨by (with_reducible repeat (first | refine blk_drewN ?_ _ | refine blk_drew ?_ | refine blk_alloc ?_ _)); exact BK1174.out⟩, ⟨by (with_reducible repeat (first | refine blk_drewN ?_ _ | refine blk_drew ?_ | refine blk_alloc ?_ _)); exact BK1184.out⟩, ⟨by (with_reducible repeat (first | refine blk_drewN ?_ _ | refine blk_drew ?_ | refine blk_alloc ?_ _)); exact BK1188.out⟩, ⟨by (with_reducible repeat (first | refine blk_drewN ?_ _ | refine blk_drew ?_ | refine blk_alloc ?_ _)); exact BK1194.out⟩, ⟨by repeat (first | (with_reducible first | exact HB.out | apply below_alloc | apply pw_below_drewN | apply below_drew1 | refine below_set ?_ GE1174.out | refine below_set ?_ GE1184.out | refine below_set ?_ GE1188.out | refine below_set ?_ GE1194.out) | exact HB.out)⟩⟩
              · rw [if_neg c72] at H
                have c72b0 : decide (t1200 < 0) = false := decide_eq_false c72
                clear c72
                (first | rw [c72b0] | (simp only [i64_w, i32_w]; rw [c72b0]) | skip)
                replace H := Option.bind_eq_some_iff.mp H
                obtain ⟨t1202, A730, H⟩ := H
                replace H : (if t1202 = true then (laws_FnExactTreeSpace.j1 kj10 t1183 (t1193 != t1183) l0_0 t1179 t1180 t1189 t1190) else (laws_FnExactTreeSpace.j1 kj10 t1183 true l0_0 t1179 t1180 t1189 t1190)) = some r := H
                have A73 := Aside0.mk A730
                clear A730
                by_cases c74 : t1202 = true
                · subst c74
                  have H1 : (laws_FnExactTreeSpace.j1 kj10 t1183 (t1193 != t1183) l0_0 t1179 t1180 t1189 t1190) = some r := by rw [if_pos rfl] at H; exact H
                  clear H
                  have H := H1
                  clear H1
                  have H' := Aside0.mk H
                  clear H
                  have hnb75 := NB1194_1174.out
                  have hnc75 := NB1174_1194.out
                  have hnb76 := NB1194_1184.out
                  have hnc76 := NB1184_1194.out
                  have hnb77 := NB1194_1188.out
                  have hnc77 := NB1188_1194.out
                  have hcz78_0 : w71.cell? ⟨gb1194, 0, none⟩ = some (.int .i64 t1189) := (blk_cell BK1194.out 0).trans rfl
                  have hcz78_1 : w71.cell? ⟨gb1194, 1, none⟩ = some (.slice Ao38 t1190.length co38) := (blk_cell BK1194.out 1).trans rfl
                  have hfz78_0 := blk_frozen BK1194.out 0
                  have hfz78_1 := blk_frozen BK1194.out 1
                  have hnb79 := NB1184_1174.out
                  have hnc79 := NB1174_1184.out
                  have hnb80 := NB1184_1188.out
                  have hnc80 := NB1188_1184.out
                  have hcz81_0 : w71.cell? ⟨gb1184, 0, none⟩ = some (.int .i64 t1179) := (blk_cell BK1184.out 0).trans rfl
                  have hcz81_1 : w71.cell? ⟨gb1184, 1, none⟩ = some (.slice Ao22 t1180.length co22) := (blk_cell BK1184.out 1).trans rfl
                  have hfz81_0 := blk_frozen BK1184.out 0
                  have hfz81_1 := blk_frozen BK1184.out 1
                  go_wp2_with (first | (go_at_call 19; (with_reducible refine (laws_eqSpace.calls kj10 t1189 _ _ t1190 t1179 _ _ t1180 true _ ?side1 ?side2 ?side3 ?side4 A73.out).mono ?_); (case side1 => repeat (first | exact (Kd.R_reads' HO_1195001.out).2.2 | (with_reducible refine Kd.C_alloc ?_ _) | (with_reducible refine Kd.C_drewN ?_ _) | (with_reducible refine Kd.C_drew ?_))); (case side2 => exact (Kd.R_reads' HO_1195001.out).2.1); (case side3 => repeat (first | exact (Kd.R_reads' HO_1185001.out).2.2 | (with_reducible refine Kd.C_alloc ?_ _) | (with_reducible refine Kd.C_drewN ?_ _) | (with_reducible refine Kd.C_drew ?_))); (case side4 => exact (Kd.R_reads' HO_1185001.out).2.1); rintro e w82 ⟨rfl, hb⟩; have n0_ := Aside0.mk (Kd.R_below (by (with_reducible repeat (first | apply Kd.R_alloc | apply Kd.R_drewN | apply Kd.R_drew)); exact HO_1185001.out) hb); have n1_ := Aside0.mk (Kd.R_below (by (with_reducible repeat (first | apply Kd.R_alloc | apply Kd.R_drewN | apply Kd.R_drew)); exact HO_1189000.out) hb); have n2_ := Aside0.mk (Kd.R_below (by (with_reducible repeat (first | apply Kd.R_alloc | apply Kd.R_drewN | apply Kd.R_drew)); exact HO_1195001.out) hb); have n3_ := Aside0.mk (Kd.R_below (by (with_reducible repeat (first | apply Kd.R_alloc | apply Kd.R_drewN | apply Kd.R_drew)); exact HO1198.out) hb); have n4_ := Aside0.mk (blk_below (g := gb1174) (o := .cells #[.slice A0_0 l0_0.length c0_0] 55 (0, 0)) (by (with_reducible repeat (first | refine blk_drewN ?_ _ | refine blk_drew ?_ | refine blk_alloc ?_ _)); exact BK1174.out) hb); have n5_ := Aside0.mk (blk_below (g := gb1184) (o := .cells #[.int .i64 t1179, .slice Ao22 t1180.length co22] 28 (0, 0)) (by (with_reducible repeat (first | refine blk_drewN ?_ _ | refine blk_drew ?_ | refine blk_alloc ?_ _)); exact BK1184.out) hb); have n6_ := Aside0.mk (blk_below (g := gb1188) (o := .cells #[.slice Ao26 t1185.length co26] 58 (0, 0)) (by (with_reducible repeat (first | refine blk_drewN ?_ _ | refine blk_drew ?_ | refine blk_alloc ?_ _)); exact BK1188.out) hb); have n7_ := Aside0.mk (blk_below (g := gb1194) (o := .cells #[.int .i64 t1189, .slice Ao38 t1190.length co38] 28 (0, 0)) (by (with_reducible repeat (first | refine blk_drewN ?_ _ | refine blk_drew ?_ | refine blk_alloc ?_ _)); exact BK1194.out) hb); have n8_ := Aside0.mk (below_step (by repeat (first | (with_reducible first | exact HB.out | apply below_alloc | apply pw_below_drewN | apply below_drew1 | refine below_set ?_ GE1174.out | refine below_set ?_ GE1184.out | refine below_set ?_ GE1188.out | refine below_set ?_ GE1194.out) | exact HB.out)) hb); clear HO_1185001; clear HO_1189000; clear HO_1195001; clear HO1198; clear BK1174; clear BK1184; clear BK1188; clear BK1194; clear HB; have HO_1185001 := n0_; have HO_1189000 := n1_; have HO_1195001 := n2_; have HO1198 := n3_; have BK1174 := n4_; have BK1184 := n5_; have BK1188 := n6_; have BK1194 := n7_; have HB := n8_; clear n0_ n1_ n2_ n3_ n4_ n5_ n6_ n7_ n8_; (try clear hb); (try clear hb2); (try clear hk); (try clear hi)))
                  go_meet
                  case rel => exact ⟨_, ((t1193 != t1183)), (by first | rfl | (simp; done) | (simp [*]; done)), H', ⟨by have := HJ10.out; first | omega | exact Nat.le_refl _⟩, ⟨by (with_reducible repeat (first | apply Kd.R_alloc | apply Kd.R_drewN | apply Kd.R_drew)); exact Kd.R_mono HO_1185001.out (fun _ hk => ⟨hk.1, hk.2.1⟩)⟩, ⟨by (with_reducible repeat (first | apply Kd.R_alloc | apply Kd.R_drewN | apply Kd.R_drew)); exact Kd.R_mono HO_1189000.out (fun _ hk => ⟨hk.1.1, hk.1.2⟩)⟩, ⟨by (with_reducible repeat (first | apply Kd.R_alloc | apply Kd.R_drewN | apply Kd.R_drew)); exact Kd.R_mono HO_1195001.out (fun _ hk => ⟨hk.1, hk.2.1⟩)⟩, ⟨by (with_reducible repeat (first | refine blk_drewN ?_ _ | refine blk_drew ?_ | refine blk_alloc ?_ _)); exact BK1174.out⟩, ⟨by (with_reducible repeat (first | refine blk_drewN ?_ _ | refine blk_drew ?_ | refine blk_alloc ?_ _)); exact BK1184.out⟩, ⟨by (with_reducible repeat (first | refine blk_drewN ?_ _ | refine blk_drew ?_ | refine blk_alloc ?_ _)); exact BK1188.out⟩, ⟨by (with_reducible repeat (first | refine blk_drewN ?_ _ | refine blk_drew ?_ | refine blk_alloc ?_ _)); exact BK1194.out⟩, ⟨by repeat (first | (with_reducible first | exact HB.out | apply below_alloc | apply pw_below_drewN | apply below_drew1 | refine below_set ?_ GE1174.out | refine below_set ?_ GE1184.out | refine below_set ?_ GE1188.out | refine below_set ?_ GE1194.out) | exact HB.out)⟩⟩
                · replace c74 := Bool.eq_false_iff.mpr c74
                  subst c74
                  have H1 : (laws_FnExactTreeSpace.j1 kj10 t1183 true l0_0 t1179 t1180 t1189 t1190) = some r := by rw [if_neg (show ¬ (false = true) by decide)] at H; exact H
                  clear H
                  have H := H1
                  clear H1
                  have H' := Aside0.mk H
                  clear H
                  have hnb83 := NB1194_1174.out
                  have hnc83 := NB1174_1194.out
                  have hnb84 := NB1194_1184.out
                  have hnc84 := NB1184_1194.out
                  have hnb85 := NB1194_1188.out
                  have hnc85 := NB1188_1194.out
                  have hcz86_0 : w71.cell? ⟨gb1194, 0, none⟩ = some (.int .i64 t1189) := (blk_cell BK1194.out 0).trans rfl
                  have hcz86_1 : w71.cell? ⟨gb1194, 1, none⟩ = some (.slice Ao38 t1190.length co38) := (blk_cell BK1194.out 1).trans rfl
                  have hfz86_0 := blk_frozen BK1194.out 0
                  have hfz86_1 := blk_frozen BK1194.out 1
                  have hnb87 := NB1184_1174.out
                  have hnc87 := NB1174_1184.out
                  have hnb88 := NB1184_1188.out
                  have hnc88 := NB1188_1184.out
                  have hcz89_0 : w71.cell? ⟨gb1184, 0, none⟩ = some (.int .i64 t1179) := (blk_cell BK1184.out 0).trans rfl
                  have hcz89_1 : w71.cell? ⟨gb1184, 1, none⟩ = some (.slice Ao22 t1180.length co22) := (blk_cell BK1184.out 1).trans rfl
                  have hfz89_0 := blk_frozen BK1184.out 0
                  have hfz89_1 := blk_frozen BK1184.out 1
                  go_wp2_with (first | (go_at_call 19; (with_reducible refine (laws_eqSpace.calls kj10 t1189 _ _ t1190 t1179 _ _ t1180 false _ ?side1 ?side2 ?side3 ?side4 A73.out).mono ?_); (case side1 => repeat (first | exact (Kd.R_reads' HO_1195001.out).2.2 | (with_reducible refine Kd.C_alloc ?_ _) | (with_reducible refine Kd.C_drewN ?_ _) | (with_reducible refine Kd.C_drew ?_))); (case side2 => exact (Kd.R_reads' HO_1195001.out).2.1); (case side3 => repeat (first | exact (Kd.R_reads' HO_1185001.out).2.2 | (with_reducible refine Kd.C_alloc ?_ _) | (with_reducible refine Kd.C_drewN ?_ _) | (with_reducible refine Kd.C_drew ?_))); (case side4 => exact (Kd.R_reads' HO_1185001.out).2.1); rintro e w90 ⟨rfl, hb⟩; have n0_ := Aside0.mk (Kd.R_below (by (with_reducible repeat (first | apply Kd.R_alloc | apply Kd.R_drewN | apply Kd.R_drew)); exact HO_1185001.out) hb); have n1_ := Aside0.mk (Kd.R_below (by (with_reducible repeat (first | apply Kd.R_alloc | apply Kd.R_drewN | apply Kd.R_drew)); exact HO_1189000.out) hb); have n2_ := Aside0.mk (Kd.R_below (by (with_reducible repeat (first | apply Kd.R_alloc | apply Kd.R_drewN | apply Kd.R_drew)); exact HO_1195001.out) hb); have n3_ := Aside0.mk (Kd.R_below (by (with_reducible repeat (first | apply Kd.R_alloc | apply Kd.R_drewN | apply Kd.R_drew)); exact HO1198.out) hb); have n4_ := Aside0.mk (blk_below (g := gb1174) (o := .cells #[.slice A0_0 l0_0.length c0_0] 55 (0, 0)) (by (with_reducible repeat (first | refine blk_drewN ?_ _ | refine blk_drew ?_ | refine blk_alloc ?_ _)); exact BK1174.out) hb); have n5_ := Aside0.mk (blk_below (g := gb1184) (o := .cells #[.int .i64 t1179, .slice Ao22 t1180.length co22] 28 (0, 0)) (by (with_reducible repeat (first | refine blk_drewN ?_ _ | refine blk_drew ?_ | refine blk_alloc ?_ _)); exact BK1184.out) hb); have n6_ := Aside0.mk (blk_below (g := gb1188) (o := .cells #[.slice Ao26 t1185.length co26] 58 (0, 0)) (by (with_reducible repeat (first | refine blk_drewN ?_ _ | refine blk_drew ?_ | refine blk_alloc ?_ _)); exact BK1188.out) hb); have n7_ := Aside0.mk (blk_below (g := gb1194) (o := .cells #[.int .i64 t1189, .slice Ao38 t1190.length co38] 28 (0, 0)) (by (with_reducible repeat (first | refine blk_drewN ?_ _ | refine blk_drew ?_ | refine blk_alloc ?_ _)); exact BK1194.out) hb); have n8_ := Aside0.mk (below_step (by repeat (first | (with_reducible first | exact HB.out | apply below_alloc | apply pw_below_drewN | apply below_drew1 | refine below_set ?_ GE1174.out | refine below_set ?_ GE1184.out | refine below_set ?_ GE1188.out | refine below_set ?_ GE1194.out) | exact HB.out)) hb); clear HO_1185001; clear HO_1189000; clear HO_1195001; clear HO1198; clear BK1174; clear BK1184; clear BK1188; clear BK1194; clear HB; have HO_1185001 := n0_; have HO_1189000 := n1_; have HO_1195001 := n2_; have HO1198 := n3_; have BK1174 := n4_; have BK1184 := n5_; have BK1188 := n6_; have BK1194 := n7_; have HB := n8_; clear n0_ n1_ n2_ n3_ n4_ n5_ n6_ n7_ n8_; (try clear hb); (try clear hb2); (try clear hk); (try clear hi)))
                  go_meet
                  case rel => exact ⟨_, (true), (by first | rfl | (simp; done) | (simp [*]; done)), H', ⟨by have := HJ10.out; first | omega | exact Nat.le_refl _⟩, ⟨by (with_reducible repeat (first | apply Kd.R_alloc | apply Kd.R_drewN | apply Kd.R_drew)); exact Kd.R_mono HO_1185001.out (fun _ hk => ⟨hk.1, hk.2.1⟩)⟩, ⟨by (with_reducible repeat (first | apply Kd.R_alloc | apply Kd.R_drewN | apply Kd.R_drew)); exact Kd.R_mono HO_1189000.out (fun _ hk => ⟨hk.1.1, hk.1.2⟩)⟩, ⟨by (with_reducible repeat (first | apply Kd.R_alloc | apply Kd.R_drewN | apply Kd.R_drew)); exact Kd.R_mono HO_1195001.out (fun _ hk => ⟨hk.1, hk.2.1⟩)⟩, ⟨by (with_reducible repeat (first | refine blk_drewN ?_ _ | refine blk_drew ?_ | refine blk_alloc ?_ _)); exact BK1174.out⟩, ⟨by (with_reducible repeat (first | refine blk_drewN ?_ _ | refine blk_drew ?_ | refine blk_alloc ?_ _)); exact BK1184.out⟩, ⟨by (with_reducible repeat (first | refine blk_drewN ?_ _ | refine blk_drew ?_ | refine blk_alloc ?_ _)); exact BK1188.out⟩, ⟨by (with_reducible repeat (first | refine blk_drewN ?_ _ | refine blk_drew ?_ | refine blk_alloc ?_ _)); exact BK1194.out⟩, ⟨by repeat (first | (with_reducible first | exact HB.out | apply below_alloc | apply pw_below_drewN | apply below_drew1 | refine below_set ?_ GE1174.out | refine below_set ?_ GE1184.out | refine below_set ?_ GE1188.out | refine below_set ?_ GE1194.out) | exact HB.out)⟩⟩
            case rest =>
              clear HC62
              try clear c1
              try clear c2
              try clear p2
              try clear c3
              try clear c3b0
              try clear c4
              try clear c5
              try clear c6
              try clear c7
              try clear c8
              try clear c13
              try clear c19
              try clear c20
              try clear c27
              try clear c28
              try clear c34
              try clear c35
              try clear c36
              try clear c40
              try clear c41
              try clear c42
              try clear c43
              try clear c45
              try clear c46
              try clear c47
              try clear c48
              try clear c49
              try clear c50
              try clear c51
              try clear c53
              try clear c54
              try clear c57
              try clear c60
              try clear c67
              try clear c68
              try clear c69
              try clear c72
              try clear c72b0
              try clear c74
              try clear c75
              try clear c76
              try clear c77
              try clear c79
              try clear c80
              try clear c83
              try clear c84
              try clear c85
              try clear c87
              try clear c88
              try clear hcz13_0
              try clear hcz15_0
              try clear hcz21_0
              try clear hcz21_1
              try clear hcz23_0
              try clear hcz29_0
              try clear hcz31_0
              try clear hcz37_0
              try clear hcz37_1
              try clear hcz44_0
              try clear hcz44_1
              try clear hcz47_0
              try clear hcz47_1
              try clear hcz52_0
              try clear hcz52_1
              try clear hcz55_0
              try clear hcz55_1
              try clear hcz5_0
              try clear hcz70_0
              try clear hcz78_0
              try clear hcz78_1
              try clear hcz81_0
              try clear hcz81_1
              try clear hcz86_0
              try clear hcz86_1
              try clear hcz89_0
              try clear hcz89_1
              try clear hfz13_0
              try clear hfz15_0
              try clear hfz21_0
              try clear hfz21_1
              try clear hfz23_0
              try clear hfz29_0
              try clear hfz31_0
              try clear hfz37_0
              try clear hfz37_1
              try clear hfz44_0
              try clear hfz44_1
              try clear hfz47_0
              try clear hfz47_1
              try clear hfz52_0
              try clear hfz52_1
              try clear hfz55_0
              try clear hfz55_1
              try clear hfz5_0
              try clear hfz70_0
              try clear hfz78_0
              try clear hfz78_1
              try clear hfz81_0
              try clear hfz81_1
              try clear hfz86_0
              try clear hfz86_1
              try clear hfz89_0
              try clear hfz89_1
              try clear p2
              obtain ⟨kq, x61_61, rfl, HA, HJ61, HO_1185001, HO_1189000, HO_1195001, BK1174, BK1184, BK1188, BK1194, HB⟩ := hcut
              have hl1189000_61 := (Kd.R_reads' HO_1189000.out).1
              rw [hl1189000_61] at HO_1189000
              (try simp only [hl1189000_61])
              (try simp only [hl1189000_61] at BK1174)
              (try simp only [hl1189000_61] at BK1184)
              (try simp only [hl1189000_61] at BK1188)
              (try simp only [hl1189000_61] at BK1194)
              (try simp only [hl1189000_61] at HO_1185001)
              (try simp only [hl1189000_61] at HO_1195001)
              cases kq with
              | zero => exact absurd HA.out (by simp [laws_FnExactTreeSpace.j1])
              | succ kj61 =>
                have H := HA.out
                clear HA
                simp only [laws_FnExactTreeSpace.j1] at H
                by_cases c91 : x61_61 = true
                · subst c91
                  have H1 : (some false) = some r := by rw [if_pos rfl] at H; exact H
                  clear H
                  have H := H1
                  clear H1
                  obtain rfl := Option.some.inj H
                  go_wp2
                  go_ret
                  exact ⟨by first | rfl | (simp [errW_none, errW_some] <;> rfl) | (simp [*, errW_none, errW_some] <;> rfl), by repeat (first | (with_reducible first | exact HB.out | apply below_alloc | apply pw_below_drewN | apply below_drew1 | refine below_set ?_ GE1174.out | refine below_set ?_ GE1184.out | refine below_set ?_ GE1188.out | refine below_set ?_ GE1194.out) | exact HB.out)⟩
                · replace c91 := Bool.eq_false_iff.mpr c91
                  subst c91
                  have H1 : ((laws_markSpace.f kj61 t1189 t1190 1).bind fun bt1203 => ((laws_heldSpace.f kj61 t1189 bt1203.2 1).bind fun t1205 => (if t1205 < 0 then (some false) else (if t1205 = bt1203.1 then ((laws_toNet.f kj61 l0_0).bind fun t1206 => ((impl_TreeSpace.f kj61 t1206).bind fun bt1209 => ((laws_eqSpace.f kj61 bt1209.1 bt1209.2.1 t1179 t1180).bind fun t1215 => (if t1215 = true then (laws_FnExactTreeSpace.j2 kj61 bt1203.1 (bt1209.2.2 != t1183) t1189 bt1203.2) else (laws_FnExactTreeSpace.j2 kj61 bt1203.1 true t1189 bt1203.2))))) else (some false))))) = some r := by rw [if_neg (show ¬ (false = true) by decide)] at H; exact H
                  clear H
                  have H := H1
                  clear H1
                  replace H := Option.bind_eq_some_iff.mp H
                  obtain ⟨⟨t1203, t1204⟩, A920, H⟩ := H
                  replace H : ((laws_heldSpace.f kj61 t1189 t1204 1).bind fun t1205 => (if t1205 < 0 then (some false) else (if t1205 = t1203 then ((laws_toNet.f kj61 l0_0).bind fun t1206 => ((impl_TreeSpace.f kj61 t1206).bind fun bt1209 => ((laws_eqSpace.f kj61 bt1209.1 bt1209.2.1 t1179 t1180).bind fun t1215 => (if t1215 = true then (laws_FnExactTreeSpace.j2 kj61 t1203 (bt1209.2.2 != t1183) t1189 t1204) else (laws_FnExactTreeSpace.j2 kj61 t1203 true t1189 t1204))))) else (some false)))) = some r := H
                  have A92 := Aside0.mk A920
                  clear A920
                  replace H := Option.bind_eq_some_iff.mp H
                  obtain ⟨t1205, A930, H⟩ := H
                  replace H : (if t1205 < 0 then (some false) else (if t1205 = t1203 then ((laws_toNet.f kj61 l0_0).bind fun t1206 => ((impl_TreeSpace.f kj61 t1206).bind fun bt1209 => ((laws_eqSpace.f kj61 bt1209.1 bt1209.2.1 t1179 t1180).bind fun t1215 => (if t1215 = true then (laws_FnExactTreeSpace.j2 kj61 t1203 (bt1209.2.2 != t1183) t1189 t1204) else (laws_FnExactTreeSpace.j2 kj61 t1203 true t1189 t1204))))) else (some false))) = some r := H
                  have A93 := Aside0.mk A930
                  clear A930
                  by_cases c94 : t1205 < 0
                  · rw [if_pos c94] at H
                    have c94b0 : decide (t1205 < 0) = true := decide_eq_true c94
                    clear c94
                    obtain rfl := Option.some.inj H
                    have hnb95 := NB1194_1174.out
                    have hnc95 := NB1174_1194.out
                    have hnb96 := NB1194_1184.out
                    have hnc96 := NB1184_1194.out
                    have hnb97 := NB1194_1188.out
                    have hnc97 := NB1188_1194.out
                    have hcz98_0 : wc.cell? ⟨gb1194, 0, none⟩ = some (.int .i64 t1189) := (blk_cell BK1194.out 0).trans rfl
                    have hcz98_1 : wc.cell? ⟨gb1194, 1, none⟩ = some (.slice Ao38 t1190.length co38) := (blk_cell BK1194.out 1).trans rfl
                    have hfz98_0 := blk_frozen BK1194.out 0
                    have hfz98_1 := blk_frozen BK1194.out 1
                    go_wp2_with (first | ((with_reducible refine gate_callee (f := 25) rfl ?_); refine goesL_ (some 64) rfl rfl Try.func25 (by kernel_rfl) rfl #[.agg #[.int .i64 t1189, .slice Ao38 t1190.length co38], .int .i64 1] rfl (by (try simp only [List.map_toArray, List.map_cons, List.map_nil]); first | done | rfl | (simp only [List.length_drop, List.length_take]; rfl)) ?_; (with_reducible refine (laws_markSpace.calls kj61 t1189 (fun k_ => some k_ = (.slice Ao38 t1190.length co38 : Value).ownBlock) (.slice Ao38 t1190.length co38) t1190 1 t1203 t1204 w _ ?side1 ?side2 A92.out).mono ?_); (case side1 => repeat (first | (with_reducible first | exact HB.out | apply below_alloc | apply pw_below_drewN | apply below_drew1 | refine below_set ?_ GE1174.out | refine below_set ?_ GE1184.out | refine below_set ?_ GE1188.out | refine below_set ?_ GE1194.out) | exact HB.out)); (case side2 => exact Kd.R_tight rfl HO_1195001.out); rintro e w99 ⟨rfl, hy0, hb, hkp⟩; refine ⟨_, rfl, ?_⟩; have n0_ := Aside0.mk (Kd.R_mono (ok' := fun k_ => some k_ ≠ (.slice Ao26 t1201.length co26 : Value).ownBlock ∧ some k_ ≠ (.slice Ao38 t1190.length co38 : Value).ownBlock) (Kd.R_keptB (HO_1185001.out) hkp (fun k_ hk_ hs_ => (hk_.2) hs_)) (fun k_ hk_ => ⟨hk_.1.1, hk_.1.2⟩)); have n1_ := Aside0.mk (Kd.R_mono (ok' := fun k_ => some k_ ≠ (.slice Ao22 t1180.length co22 : Value).ownBlock ∧ some k_ ≠ (.slice Ao38 t1190.length co38 : Value).ownBlock) (Kd.R_keptB (HO_1189000.out) hkp (fun k_ hk_ hs_ => (hk_.2) hs_)) (fun k_ hk_ => ⟨hk_.1.1, hk_.1.2⟩)); have n2_ := Aside0.mk (Kd.R_reok rfl hy0 (fun k_ e_ => HO_1195001.out.1 k_ e_)); have n3_ := Aside0.mk (blk_kept (by (with_reducible repeat (first | refine blk_drewN ?_ _ | refine blk_drew ?_ | refine blk_alloc ?_ _)); exact BK1174.out) hkp (fun hs_ => (fun e_ => (Kd.R_ne HO_1195001.out BK1174.out (by decide)) e_) hs_)); have n4_ := Aside0.mk (blk_kept (by (with_reducible repeat (first | refine blk_drewN ?_ _ | refine blk_drew ?_ | refine blk_alloc ?_ _)); exact BK1184.out) hkp (fun hs_ => (fun e_ => (Kd.R_ne HO_1195001.out BK1184.out (by decide)) e_) hs_)); have n5_ := Aside0.mk (blk_kept (by (with_reducible repeat (first | refine blk_drewN ?_ _ | refine blk_drew ?_ | refine blk_alloc ?_ _)); exact BK1188.out) hkp (fun hs_ => (fun e_ => (Kd.R_ne HO_1195001.out BK1188.out (by decide)) e_) hs_)); have n6_ := Aside0.mk (blk_kept (by (with_reducible repeat (first | refine blk_drewN ?_ _ | refine blk_drew ?_ | refine blk_alloc ?_ _)); exact BK1194.out) hkp (fun hs_ => (fun e_ => (Kd.R_ne HO_1195001.out BK1194.out (by decide)) e_) hs_)); have n7_ := Aside0.mk (hb); clear HO_1185001; clear HO_1189000; clear HO_1195001; clear BK1174; clear BK1184; clear BK1188; clear BK1194; clear HB; have HO_1185001 := n0_; have HO_1189000 := n1_; have HO_1195001 := n2_; have BK1174 := n3_; have BK1184 := n4_; have BK1188 := n5_; have BK1194 := n6_; have HB := n7_; clear n0_ n1_ n2_ n3_ n4_ n5_ n6_ n7_; (try clear hb); (try clear hkp); (try clear hy0); have hcz100_0 : w99.cell? ⟨gb1194, 0, none⟩ = some (.int .i64 t1189) := (blk_cell BK1194.out 0).trans rfl; have hcz100_1 : w99.cell? ⟨gb1194, 1, none⟩ = some (.slice Ao38 t1190.length co38) := (blk_cell BK1194.out 1).trans rfl; have hfz100_0 := blk_frozen BK1194.out 0; have hfz100_1 := blk_frozen BK1194.out 1) | ((with_reducible refine gate_callee (f := 26) rfl ?_); refine goesL_ (some 67) rfl rfl Try.func26 (by kernel_rfl) rfl #[.agg #[.int .i64 t1189, .slice Ao38 t1204.length co38], .int .i64 1] rfl (by (try simp only [List.map_toArray, List.map_cons, List.map_nil]); first | done | (rw [show t1204.length = t1190.length from (Kd.R_reads' HO_1195001.out).1.symm] <;> rfl) | rfl | (simp only [List.length_drop, List.length_take]; rfl)) ?_; (with_reducible refine (laws_heldSpace.calls kj61 t1189 _ _ t1204 1 t1205 _ ?side1 ?side2 A93.out).mono ?_); (case side1 => repeat (first | exact (Kd.R_reads' HO_1195001.out).2.2 | (with_reducible refine Kd.C_alloc ?_ _) | (with_reducible refine Kd.C_drewN ?_ _) | (with_reducible refine Kd.C_drew ?_))); (case side2 => rw [show t1204.length = t1190.length from (Kd.R_reads' HO_1195001.out).1.symm]; exact (Kd.R_reads' HO_1195001.out).2.1); rintro e w101 ⟨rfl, hb⟩; refine ⟨_, rfl, ?_⟩; have n0_ := Aside0.mk (Kd.R_below (by (with_reducible repeat (first | apply Kd.R_alloc | apply Kd.R_drewN | apply Kd.R_drew)); exact HO_1185001.out) hb); have n1_ := Aside0.mk (Kd.R_below (by (with_reducible repeat (first | apply Kd.R_alloc | apply Kd.R_drewN | apply Kd.R_drew)); exact HO_1189000.out) hb); have n2_ := Aside0.mk (Kd.R_below (by (with_reducible repeat (first | apply Kd.R_alloc | apply Kd.R_drewN | apply Kd.R_drew)); exact HO_1195001.out) hb); have n3_ := Aside0.mk (blk_below (g := gb1174) (o := .cells #[.slice A0_0 l0_0.length c0_0] 55 (0, 0)) (by (with_reducible repeat (first | refine blk_drewN ?_ _ | refine blk_drew ?_ | refine blk_alloc ?_ _)); exact BK1174.out) hb); have n4_ := Aside0.mk (blk_below (g := gb1184) (o := .cells #[.int .i64 t1179, .slice Ao22 t1180.length co22] 28 (0, 0)) (by (with_reducible repeat (first | refine blk_drewN ?_ _ | refine blk_drew ?_ | refine blk_alloc ?_ _)); exact BK1184.out) hb); have n5_ := Aside0.mk (blk_below (g := gb1188) (o := .cells #[.slice Ao26 t1201.length co26] 58 (0, 0)) (by (with_reducible repeat (first | refine blk_drewN ?_ _ | refine blk_drew ?_ | refine blk_alloc ?_ _)); exact BK1188.out) hb); have n6_ := Aside0.mk (blk_below (g := gb1194) (o := .cells #[.int .i64 t1189, .slice Ao38 t1190.length co38] 28 (0, 0)) (by (with_reducible repeat (first | refine blk_drewN ?_ _ | refine blk_drew ?_ | refine blk_alloc ?_ _)); exact BK1194.out) hb); have n7_ := Aside0.mk (below_step (by repeat (first | (with_reducible first | exact HB.out | apply below_alloc | apply pw_below_drewN | apply below_drew1 | refine below_set ?_ GE1174.out | refine below_set ?_ GE1184.out | refine below_set ?_ GE1188.out | refine below_set ?_ GE1194.out) | exact HB.out)) hb); clear HO_1185001; clear HO_1189000; clear HO_1195001; clear BK1174; clear BK1184; clear BK1188; clear BK1194; clear HB; have HO_1185001 := n0_; have HO_1189000 := n1_; have HO_1195001 := n2_; have BK1174 := n3_; have BK1184 := n4_; have BK1188 := n5_; have BK1194 := n6_; have HB := n7_; clear n0_ n1_ n2_ n3_ n4_ n5_ n6_ n7_; (try clear hb); (try clear hb2); (try clear hk); (try clear hi)))
                    go_ret
                    exact ⟨by first | rfl | (simp [errW_none, errW_some] <;> rfl) | (simp [*, errW_none, errW_some] <;> rfl), by repeat (first | (with_reducible first | exact HB.out | apply below_alloc | apply pw_below_drewN | apply below_drew1 | refine below_set ?_ GE1174.out | refine below_set ?_ GE1184.out | refine below_set ?_ GE1188.out | refine below_set ?_ GE1194.out) | exact HB.out)⟩
                  · rw [if_neg c94] at H
                    have c94b0 : decide (t1205 < 0) = false := decide_eq_false c94
                    clear c94
                    by_cases c102 : t1205 = t1203
                    · rw [if_pos c102] at H
                      have c102b0 : (t1205 == t1203) = true := beq_iff_eq.mpr c102
                      have c102b1 : (t1205 != t1203) = false := bne_eq_false_iff_eq.mpr c102
                      clear c102
                      replace H := Option.bind_eq_some_iff.mp H
                      obtain ⟨t1206, A1030, H⟩ := H
                      replace H : ((impl_TreeSpace.f kj61 t1206).bind fun bt1209 => ((laws_eqSpace.f kj61 bt1209.1 bt1209.2.1 t1179 t1180).bind fun t1215 => (if t1215 = true then (laws_FnExactTreeSpace.j2 kj61 t1203 (bt1209.2.2 != t1183) t1189 t1204) else (laws_FnExactTreeSpace.j2 kj61 t1203 true t1189 t1204)))) = some r := H
                      have A103 := Aside0.mk A1030
                      clear A1030
                      replace H := Option.bind_eq_some_iff.mp H
                      obtain ⟨⟨t1209, t1210, t1213⟩, A1040, H⟩ := H
                      replace H : ((laws_eqSpace.f kj61 t1209 t1210 t1179 t1180).bind fun t1215 => (if t1215 = true then (laws_FnExactTreeSpace.j2 kj61 t1203 (t1213 != t1183) t1189 t1204) else (laws_FnExactTreeSpace.j2 kj61 t1203 true t1189 t1204))) = some r := H
                      have A104 := Aside0.mk A1040
                      clear A1040
                      have HC105 := Aside0.mk H
                      clear H
                      have hnb106 := NB1194_1174.out
                      have hnc106 := NB1174_1194.out
                      have hnb107 := NB1194_1184.out
                      have hnc107 := NB1184_1194.out
                      have hnb108 := NB1194_1188.out
                      have hnc108 := NB1188_1194.out
                      have hcz109_0 : wc.cell? ⟨gb1194, 0, none⟩ = some (.int .i64 t1189) := (blk_cell BK1194.out 0).trans rfl
                      have hcz109_1 : wc.cell? ⟨gb1194, 1, none⟩ = some (.slice Ao38 t1190.length co38) := (blk_cell BK1194.out 1).trans rfl
                      have hfz109_0 := blk_frozen BK1194.out 0
                      have hfz109_1 := blk_frozen BK1194.out 1
                      go_upto_region 25 with (first | ((with_reducible refine gate_callee (f := 25) rfl ?_); refine goesL_ (some 64) rfl rfl Try.func25 (by kernel_rfl) rfl #[.agg #[.int .i64 t1189, .slice Ao38 t1190.length co38], .int .i64 1] rfl (by (try simp only [List.map_toArray, List.map_cons, List.map_nil]); first | done | rfl | (simp only [List.length_drop, List.length_take]; rfl)) ?_; (with_reducible refine (laws_markSpace.calls kj61 t1189 (fun k_ => some k_ = (.slice Ao38 t1190.length co38 : Value).ownBlock) (.slice Ao38 t1190.length co38) t1190 1 t1203 t1204 w _ ?side1 ?side2 A92.out).mono ?_); (case side1 => repeat (first | (with_reducible first | exact HB.out | apply below_alloc | apply pw_below_drewN | apply below_drew1 | refine below_set ?_ GE1174.out | refine below_set ?_ GE1184.out | refine below_set ?_ GE1188.out | refine below_set ?_ GE1194.out) | exact HB.out)); (case side2 => exact Kd.R_tight rfl HO_1195001.out); rintro e w110 ⟨rfl, hy0, hb, hkp⟩; refine ⟨_, rfl, ?_⟩; have n0_ := Aside0.mk (Kd.R_mono (ok' := fun k_ => some k_ ≠ (.slice Ao26 t1201.length co26 : Value).ownBlock ∧ some k_ ≠ (.slice Ao38 t1190.length co38 : Value).ownBlock) (Kd.R_keptB (HO_1185001.out) hkp (fun k_ hk_ hs_ => (hk_.2) hs_)) (fun k_ hk_ => ⟨hk_.1.1, hk_.1.2⟩)); have n1_ := Aside0.mk (Kd.R_mono (ok' := fun k_ => some k_ ≠ (.slice Ao22 t1180.length co22 : Value).ownBlock ∧ some k_ ≠ (.slice Ao38 t1190.length co38 : Value).ownBlock) (Kd.R_keptB (HO_1189000.out) hkp (fun k_ hk_ hs_ => (hk_.2) hs_)) (fun k_ hk_ => ⟨hk_.1.1, hk_.1.2⟩)); have n2_ := Aside0.mk (Kd.R_reok rfl hy0 (fun k_ e_ => HO_1195001.out.1 k_ e_)); have n3_ := Aside0.mk (blk_kept (by (with_reducible repeat (first | refine blk_drewN ?_ _ | refine blk_drew ?_ | refine blk_alloc ?_ _)); exact BK1174.out) hkp (fun hs_ => (fun e_ => (Kd.R_ne HO_1195001.out BK1174.out (by decide)) e_) hs_)); have n4_ := Aside0.mk (blk_kept (by (with_reducible repeat (first | refine blk_drewN ?_ _ | refine blk_drew ?_ | refine blk_alloc ?_ _)); exact BK1184.out) hkp (fun hs_ => (fun e_ => (Kd.R_ne HO_1195001.out BK1184.out (by decide)) e_) hs_)); have n5_ := Aside0.mk (blk_kept (by (with_reducible repeat (first | refine blk_drewN ?_ _ | refine blk_drew ?_ | refine blk_alloc ?_ _)); exact BK1188.out) hkp (fun hs_ => (fun e_ => (Kd.R_ne HO_1195001.out BK1188.out (by decide)) e_) hs_)); have n6_ := Aside0.mk (blk_kept (by (with_reducible repeat (first | refine blk_drewN ?_ _ | refine blk_drew ?_ | refine blk_alloc ?_ _)); exact BK1194.out) hkp (fun hs_ => (fun e_ => (Kd.R_ne HO_1195001.out BK1194.out (by decide)) e_) hs_)); have n7_ := Aside0.mk (hb); clear HO_1185001; clear HO_1189000; clear HO_1195001; clear BK1174; clear BK1184; clear BK1188; clear BK1194; clear HB; have HO_1185001 := n0_; have HO_1189000 := n1_; have HO_1195001 := n2_; have BK1174 := n3_; have BK1184 := n4_; have BK1188 := n5_; have BK1194 := n6_; have HB := n7_; clear n0_ n1_ n2_ n3_ n4_ n5_ n6_ n7_; (try clear hb); (try clear hkp); (try clear hy0); have hcz111_0 : w110.cell? ⟨gb1194, 0, none⟩ = some (.int .i64 t1189) := (blk_cell BK1194.out 0).trans rfl; have hcz111_1 : w110.cell? ⟨gb1194, 1, none⟩ = some (.slice Ao38 t1190.length co38) := (blk_cell BK1194.out 1).trans rfl; have hfz111_0 := blk_frozen BK1194.out 0; have hfz111_1 := blk_frozen BK1194.out 1) | ((with_reducible refine gate_callee (f := 26) rfl ?_); refine goesL_ (some 67) rfl rfl Try.func26 (by kernel_rfl) rfl #[.agg #[.int .i64 t1189, .slice Ao38 t1204.length co38], .int .i64 1] rfl (by (try simp only [List.map_toArray, List.map_cons, List.map_nil]); first | done | (rw [show t1204.length = t1190.length from (Kd.R_reads' HO_1195001.out).1.symm] <;> rfl) | rfl | (simp only [List.length_drop, List.length_take]; rfl)) ?_; (with_reducible refine (laws_heldSpace.calls kj61 t1189 _ _ t1204 1 t1205 _ ?side1 ?side2 A93.out).mono ?_); (case side1 => repeat (first | exact (Kd.R_reads' HO_1195001.out).2.2 | (with_reducible refine Kd.C_alloc ?_ _) | (with_reducible refine Kd.C_drewN ?_ _) | (with_reducible refine Kd.C_drew ?_))); (case side2 => rw [show t1204.length = t1190.length from (Kd.R_reads' HO_1195001.out).1.symm]; exact (Kd.R_reads' HO_1195001.out).2.1); rintro e w112 ⟨rfl, hb⟩; refine ⟨_, rfl, ?_⟩; have n0_ := Aside0.mk (Kd.R_below (by (with_reducible repeat (first | apply Kd.R_alloc | apply Kd.R_drewN | apply Kd.R_drew)); exact HO_1185001.out) hb); have n1_ := Aside0.mk (Kd.R_below (by (with_reducible repeat (first | apply Kd.R_alloc | apply Kd.R_drewN | apply Kd.R_drew)); exact HO_1189000.out) hb); have n2_ := Aside0.mk (Kd.R_below (by (with_reducible repeat (first | apply Kd.R_alloc | apply Kd.R_drewN | apply Kd.R_drew)); exact HO_1195001.out) hb); have n3_ := Aside0.mk (blk_below (g := gb1174) (o := .cells #[.slice A0_0 l0_0.length c0_0] 55 (0, 0)) (by (with_reducible repeat (first | refine blk_drewN ?_ _ | refine blk_drew ?_ | refine blk_alloc ?_ _)); exact BK1174.out) hb); have n4_ := Aside0.mk (blk_below (g := gb1184) (o := .cells #[.int .i64 t1179, .slice Ao22 t1180.length co22] 28 (0, 0)) (by (with_reducible repeat (first | refine blk_drewN ?_ _ | refine blk_drew ?_ | refine blk_alloc ?_ _)); exact BK1184.out) hb); have n5_ := Aside0.mk (blk_below (g := gb1188) (o := .cells #[.slice Ao26 t1201.length co26] 58 (0, 0)) (by (with_reducible repeat (first | refine blk_drewN ?_ _ | refine blk_drew ?_ | refine blk_alloc ?_ _)); exact BK1188.out) hb); have n6_ := Aside0.mk (blk_below (g := gb1194) (o := .cells #[.int .i64 t1189, .slice Ao38 t1190.length co38] 28 (0, 0)) (by (with_reducible repeat (first | refine blk_drewN ?_ _ | refine blk_drew ?_ | refine blk_alloc ?_ _)); exact BK1194.out) hb); have n7_ := Aside0.mk (below_step (by repeat (first | (with_reducible first | exact HB.out | apply below_alloc | apply pw_below_drewN | apply below_drew1 | refine below_set ?_ GE1174.out | refine below_set ?_ GE1184.out | refine below_set ?_ GE1188.out | refine below_set ?_ GE1194.out) | exact HB.out)) hb); clear HO_1185001; clear HO_1189000; clear HO_1195001; clear BK1174; clear BK1184; clear BK1188; clear BK1194; clear HB; have HO_1185001 := n0_; have HO_1189000 := n1_; have HO_1195001 := n2_; have BK1174 := n3_; have BK1184 := n4_; have BK1188 := n5_; have BK1194 := n6_; have HB := n7_; clear n0_ n1_ n2_ n3_ n4_ n5_ n6_ n7_; (try clear hb); (try clear hb2); (try clear hk); (try clear hi); have hnb113 := NB1174_1184.out; have hnc113 := NB1184_1174.out; have hnb114 := NB1174_1188.out; have hnc114 := NB1188_1174.out; have hcz115_0 : w112.cell? ⟨gb1174, 0, none⟩ = some (.slice A0_0 l0_0.length c0_0) := (blk_cell BK1174.out 0).trans rfl; have hfz115_0 := blk_frozen BK1174.out 0) | ((with_reducible refine gate_callee (f := 45) rfl ?_); refine goesL_ (some 75) rfl rfl Try.func45 (by kernel_rfl) rfl #[.agg #[.slice A0_0 l0_0.length c0_0]] rfl (by (try simp only [List.map_toArray, List.map_cons, List.map_nil]); first | done | rfl | (simp only [List.length_drop, List.length_take]; rfl)) ?_; (with_reducible refine (laws_toNet.calls kj61 _ _ l0_0 t1206 _ ?side1 ?side2 A103.out).mono ?_); (case side1 => repeat (first | exact (Kd.C_below HR0_0.out HB.out) | (with_reducible refine Kd.C_alloc ?_ _) | (with_reducible refine Kd.C_drewN ?_ _) | (with_reducible refine Kd.C_drew ?_))); (case side2 => exact HC0_0.out); rintro e w116 ⟨v1207, rfl, ho0, hb⟩; refine ⟨_, rfl, ?_⟩; have n0_ := Aside0.mk (Kd.R_elder' (by (with_reducible repeat (first | apply Kd.R_alloc | apply Kd.R_drewN | apply Kd.R_drew)); exact HO_1185001.out) (Kd.R_base ho0) hb); have n1_ := Aside0.mk (Kd.R_elder' (by (with_reducible repeat (first | apply Kd.R_alloc | apply Kd.R_drewN | apply Kd.R_drew)); exact HO_1189000.out) (Kd.R_base ho0) hb); have n2_ := Aside0.mk (Kd.R_elder' (by (with_reducible repeat (first | apply Kd.R_alloc | apply Kd.R_drewN | apply Kd.R_drew)); exact HO_1195001.out) (Kd.R_base ho0) hb); have n3_ := Aside0.mk (Kd.R_lower (Kd.R_new' (Kd.R_new' (Kd.R_new' ho0 (Kd.R_lt (by (with_reducible repeat (first | apply Kd.R_alloc | apply Kd.R_drewN | apply Kd.R_drew)); exact HO_1185001.out))) (Kd.R_lt (by (with_reducible repeat (first | apply Kd.R_alloc | apply Kd.R_drewN | apply Kd.R_drew)); exact HO_1189000.out))) (Kd.R_lt (by (with_reducible repeat (first | apply Kd.R_alloc | apply Kd.R_drewN | apply Kd.R_drew)); exact HO_1195001.out))) (below_size (by repeat (first | (with_reducible first | exact HB.out | apply below_alloc | apply pw_below_drewN | apply below_drew1 | refine below_set ?_ GE1174.out | refine below_set ?_ GE1184.out | refine below_set ?_ GE1188.out | refine below_set ?_ GE1194.out) | exact HB.out)))); have n4_ := Aside0.mk (blk_below (g := gb1174) (o := .cells #[.slice A0_0 l0_0.length c0_0] 55 (0, 0)) (by (with_reducible repeat (first | refine blk_drewN ?_ _ | refine blk_drew ?_ | refine blk_alloc ?_ _)); exact BK1174.out) hb); have n5_ := Aside0.mk (blk_below (g := gb1184) (o := .cells #[.int .i64 t1179, .slice Ao22 t1180.length co22] 28 (0, 0)) (by (with_reducible repeat (first | refine blk_drewN ?_ _ | refine blk_drew ?_ | refine blk_alloc ?_ _)); exact BK1184.out) hb); have n6_ := Aside0.mk (blk_below (g := gb1188) (o := .cells #[.slice Ao26 t1201.length co26] 58 (0, 0)) (by (with_reducible repeat (first | refine blk_drewN ?_ _ | refine blk_drew ?_ | refine blk_alloc ?_ _)); exact BK1188.out) hb); have n7_ := Aside0.mk (blk_below (g := gb1194) (o := .cells #[.int .i64 t1189, .slice Ao38 t1190.length co38] 28 (0, 0)) (by (with_reducible repeat (first | refine blk_drewN ?_ _ | refine blk_drew ?_ | refine blk_alloc ?_ _)); exact BK1194.out) hb); have n8_ := Aside0.mk (below_step (by repeat (first | (with_reducible first | exact HB.out | apply below_alloc | apply pw_below_drewN | apply below_drew1 | refine below_set ?_ GE1174.out | refine below_set ?_ GE1184.out | refine below_set ?_ GE1188.out | refine below_set ?_ GE1194.out) | exact HB.out)) hb); clear HO_1185001; clear HO_1189000; clear HO_1195001; clear BK1174; clear BK1184; clear BK1188; clear BK1194; clear HB; have HO_1185001 := n0_; have HO_1189000 := n1_; have HO_1195001 := n2_; have HO1208 := n3_; have BK1174 := n4_; have BK1184 := n5_; have BK1188 := n6_; have BK1194 := n7_; have HB := n8_; clear n0_ n1_ n2_ n3_ n4_ n5_ n6_ n7_ n8_; (try clear hb); (try clear hb2); (try clear hk); (try clear hi); (try clear ho0); obtain ⟨Ao117, co117, eo117⟩ := Kd.R_slice HO1208.out; subst eo117) | ((with_reducible refine gate_callee (f := 54) rfl ?_); refine goesL_ (some 76) rfl rfl Try.func54 (by kernel_rfl) rfl #[.agg #[.slice Ao117 t1206.length co117]] rfl (by (try simp only [List.map_toArray, List.map_cons, List.map_nil]); first | done | rfl | (simp only [List.length_drop, List.length_take]; rfl)) ?_; (with_reducible refine (impl_TreeSpace.calls kj61 (fun k_ => some k_ = (.slice Ao117 t1206.length co117 : Value).ownBlock) _ _ t1206 t1209 t1210 t1213 _ ?side1 A104.out).mono ?_); (case side1 => exact Kd.R_V (Kd.R_tight rfl (Kd.R_types (Kd.R_types (Kd.R_types (Kd.R_types (HO1208.out) BK1174.out (by decide)) BK1184.out (by decide)) BK1188.out (by decide)) BK1194.out (by decide)))); rintro e w118 ⟨v1211, rfl, ho0, hb⟩; refine ⟨_, rfl, ?_⟩; have n0_ := Aside0.mk (Kd.R_elder' (by (with_reducible repeat (first | apply Kd.R_alloc | apply Kd.R_drewN | apply Kd.R_drew)); exact HO_1185001.out) (Kd.R_base ho0) hb); have n1_ := Aside0.mk (Kd.R_elder' (by (with_reducible repeat (first | apply Kd.R_alloc | apply Kd.R_drewN | apply Kd.R_drew)); exact HO_1189000.out) (Kd.R_base ho0) hb); have n2_ := Aside0.mk (Kd.R_elder' (by (with_reducible repeat (first | apply Kd.R_alloc | apply Kd.R_drewN | apply Kd.R_drew)); exact HO_1195001.out) (Kd.R_base ho0) hb); have n3_ := Aside0.mk (Kd.R_elder' (by (with_reducible repeat (first | apply Kd.R_alloc | apply Kd.R_drewN | apply Kd.R_drew)); exact HO1208.out) (Kd.R_base ho0) hb); have n4_ := Aside0.mk (Kd.R_lower (Kd.R_new' (Kd.R_new' (Kd.R_new' (Kd.R_new' (Kd.R_mono (ok' := fun k_ => True) ho0 (fun _ hk_ => trivial)) (Kd.R_lt (by (with_reducible repeat (first | apply Kd.R_alloc | apply Kd.R_drewN | apply Kd.R_drew)); exact HO_1185001.out))) (Kd.R_lt (by (with_reducible repeat (first | apply Kd.R_alloc | apply Kd.R_drewN | apply Kd.R_drew)); exact HO_1189000.out))) (Kd.R_lt (by (with_reducible repeat (first | apply Kd.R_alloc | apply Kd.R_drewN | apply Kd.R_drew)); exact HO_1195001.out))) (Kd.R_lt (by (with_reducible repeat (first | apply Kd.R_alloc | apply Kd.R_drewN | apply Kd.R_drew)); exact HO1208.out))) (below_size (by repeat (first | (with_reducible first | exact HB.out | apply below_alloc | apply pw_below_drewN | apply below_drew1 | refine below_set ?_ GE1174.out | refine below_set ?_ GE1184.out | refine below_set ?_ GE1188.out | refine below_set ?_ GE1194.out) | exact HB.out)))); have n5_ := Aside0.mk (blk_below (g := gb1174) (o := .cells #[.slice A0_0 l0_0.length c0_0] 55 (0, 0)) (by (with_reducible repeat (first | refine blk_drewN ?_ _ | refine blk_drew ?_ | refine blk_alloc ?_ _)); exact BK1174.out) hb); have n6_ := Aside0.mk (blk_below (g := gb1184) (o := .cells #[.int .i64 t1179, .slice Ao22 t1180.length co22] 28 (0, 0)) (by (with_reducible repeat (first | refine blk_drewN ?_ _ | refine blk_drew ?_ | refine blk_alloc ?_ _)); exact BK1184.out) hb); have n7_ := Aside0.mk (blk_below (g := gb1188) (o := .cells #[.slice Ao26 t1201.length co26] 58 (0, 0)) (by (with_reducible repeat (first | refine blk_drewN ?_ _ | refine blk_drew ?_ | refine blk_alloc ?_ _)); exact BK1188.out) hb); have n8_ := Aside0.mk (blk_below (g := gb1194) (o := .cells #[.int .i64 t1189, .slice Ao38 t1190.length co38] 28 (0, 0)) (by (with_reducible repeat (first | refine blk_drewN ?_ _ | refine blk_drew ?_ | refine blk_alloc ?_ _)); exact BK1194.out) hb); have n9_ := Aside0.mk (below_step (by repeat (first | (with_reducible first | exact HB.out | apply below_alloc | apply pw_below_drewN | apply below_drew1 | refine below_set ?_ GE1174.out | refine below_set ?_ GE1184.out | refine below_set ?_ GE1188.out | refine below_set ?_ GE1194.out) | exact HB.out)) hb); clear HO_1185001; clear HO_1189000; clear HO_1195001; clear HO1208; clear BK1174; clear BK1184; clear BK1188; clear BK1194; clear HB; have HO_1185001 := n0_; have HO_1189000 := n1_; have HO_1195001 := n2_; have HO1208 := n3_; have HO1212 := n4_; have BK1174 := n5_; have BK1184 := n6_; have BK1188 := n7_; have BK1194 := n8_; have HB := n9_; clear n0_ n1_ n2_ n3_ n4_ n5_ n6_ n7_ n8_ n9_; (try clear hb); (try clear hb2); (try clear hk); (try clear hi); (try clear ho0)) | ((with_reducible refine gate_dst (N := 12) rfl ?_); refine box_event ?hg (N := 12) ?hd (cs := #[.int .i64 0, .slice none 0 0]) (t := 28) ?hr ?_; (case hd => rfl); (case hg => rfl); (case hr => first | (go_simp; done) | (go_simp; rfl)); intro gb1214 hg w119 hbox hb; have n0_ := Aside0.mk (Kd.R_below (by (with_reducible repeat (first | apply Kd.R_alloc | apply Kd.R_drewN | apply Kd.R_drew)); exact HO_1185001.out) hb); have n1_ := Aside0.mk (Kd.R_below (by (with_reducible repeat (first | apply Kd.R_alloc | apply Kd.R_drewN | apply Kd.R_drew)); exact HO_1189000.out) hb); have n2_ := Aside0.mk (Kd.R_below (by (with_reducible repeat (first | apply Kd.R_alloc | apply Kd.R_drewN | apply Kd.R_drew)); exact HO_1195001.out) hb); have n3_ := Aside0.mk (Kd.R_below (by (with_reducible repeat (first | apply Kd.R_alloc | apply Kd.R_drewN | apply Kd.R_drew)); exact HO1208.out) hb); have n4_ := Aside0.mk (Kd.R_below (by (with_reducible repeat (first | apply Kd.R_alloc | apply Kd.R_drewN | apply Kd.R_drew)); exact HO1212.out) hb); have n5_ := Aside0.mk (blk_below (g := gb1174) (o := .cells #[.slice A0_0 l0_0.length c0_0] 55 (0, 0)) (by (with_reducible repeat (first | refine blk_drewN ?_ _ | refine blk_drew ?_ | refine blk_alloc ?_ _)); exact BK1174.out) hb); have n6_ := Aside0.mk (blk_below (g := gb1184) (o := .cells #[.int .i64 t1179, .slice Ao22 t1180.length co22] 28 (0, 0)) (by (with_reducible repeat (first | refine blk_drewN ?_ _ | refine blk_drew ?_ | refine blk_alloc ?_ _)); exact BK1184.out) hb); have n7_ := Aside0.mk (blk_below (g := gb1188) (o := .cells #[.slice Ao26 t1201.length co26] 58 (0, 0)) (by (with_reducible repeat (first | refine blk_drewN ?_ _ | refine blk_drew ?_ | refine blk_alloc ?_ _)); exact BK1188.out) hb); have n8_ := Aside0.mk (blk_below (g := gb1194) (o := .cells #[.int .i64 t1189, .slice Ao38 t1190.length co38] 28 (0, 0)) (by (with_reducible repeat (first | refine blk_drewN ?_ _ | refine blk_drew ?_ | refine blk_alloc ?_ _)); exact BK1194.out) hb); have n9_ := Aside0.mk (below_step (by repeat (first | (with_reducible first | exact HB.out | apply below_alloc | apply pw_below_drewN | apply below_drew1 | refine below_set ?_ GE1174.out | refine below_set ?_ GE1184.out | refine below_set ?_ GE1188.out | refine below_set ?_ GE1194.out) | exact HB.out)) hb); have n10_ := Aside0.mk (hbox); have n11_ := Aside0.mk ((by rw [hg]; exact (below_size (by repeat (first | (with_reducible first | exact HB.out | apply below_alloc | apply pw_below_drewN | apply below_drew1 | refine below_set ?_ GE1174.out | refine below_set ?_ GE1184.out | refine below_set ?_ GE1188.out | refine below_set ?_ GE1194.out) | exact HB.out))) : w.heap.size ≤ gb1214)); have n12_ := Aside0.mk ((by rw [hg]; exact (below_size (by repeat (first | (with_reducible first | exact HB.out | apply below_alloc | apply pw_below_drewN | apply below_drew1 | refine below_set ?_ GE1174.out | refine below_set ?_ GE1184.out | refine below_set ?_ GE1188.out | refine below_set ?_ GE1194.out) | exact HB.out))) : w.heap.size ≤ gb1214)); have n13_ := Aside0.mk ((by rw [hg]; exact Nat.ne_of_lt (blk_lt (g := gb1174) (o := .cells #[.slice A0_0 l0_0.length c0_0] 55 (0, 0)) (by (with_reducible repeat (first | refine blk_drewN ?_ _ | refine blk_drew ?_ | refine blk_alloc ?_ _)); exact BK1174.out)) : gb1174 ≠ gb1214)); have n14_ := Aside0.mk ((by rw [hg]; exact Nat.ne_of_gt (blk_lt (g := gb1174) (o := .cells #[.slice A0_0 l0_0.length c0_0] 55 (0, 0)) (by (with_reducible repeat (first | refine blk_drewN ?_ _ | refine blk_drew ?_ | refine blk_alloc ?_ _)); exact BK1174.out)) : gb1214 ≠ gb1174)); have n15_ := Aside0.mk ((by rw [hg]; exact Nat.ne_of_lt (blk_lt (g := gb1184) (o := .cells #[.int .i64 t1179, .slice Ao22 t1180.length co22] 28 (0, 0)) (by (with_reducible repeat (first | refine blk_drewN ?_ _ | refine blk_drew ?_ | refine blk_alloc ?_ _)); exact BK1184.out)) : gb1184 ≠ gb1214)); have n16_ := Aside0.mk ((by rw [hg]; exact Nat.ne_of_gt (blk_lt (g := gb1184) (o := .cells #[.int .i64 t1179, .slice Ao22 t1180.length co22] 28 (0, 0)) (by (with_reducible repeat (first | refine blk_drewN ?_ _ | refine blk_drew ?_ | refine blk_alloc ?_ _)); exact BK1184.out)) : gb1214 ≠ gb1184)); have n17_ := Aside0.mk ((by rw [hg]; exact Nat.ne_of_lt (blk_lt (g := gb1188) (o := .cells #[.slice Ao26 t1201.length co26] 58 (0, 0)) (by (with_reducible repeat (first | refine blk_drewN ?_ _ | refine blk_drew ?_ | refine blk_alloc ?_ _)); exact BK1188.out)) : gb1188 ≠ gb1214)); have n18_ := Aside0.mk ((by rw [hg]; exact Nat.ne_of_gt (blk_lt (g := gb1188) (o := .cells #[.slice Ao26 t1201.length co26] 58 (0, 0)) (by (with_reducible repeat (first | refine blk_drewN ?_ _ | refine blk_drew ?_ | refine blk_alloc ?_ _)); exact BK1188.out)) : gb1214 ≠ gb1188)); have n19_ := Aside0.mk ((by rw [hg]; exact Nat.ne_of_lt (blk_lt (g := gb1194) (o := .cells #[.int .i64 t1189, .slice Ao38 t1190.length co38] 28 (0, 0)) (by (with_reducible repeat (first | refine blk_drewN ?_ _ | refine blk_drew ?_ | refine blk_alloc ?_ _)); exact BK1194.out)) : gb1194 ≠ gb1214)); have n20_ := Aside0.mk ((by rw [hg]; exact Nat.ne_of_gt (blk_lt (g := gb1194) (o := .cells #[.int .i64 t1189, .slice Ao38 t1190.length co38] 28 (0, 0)) (by (with_reducible repeat (first | refine blk_drewN ?_ _ | refine blk_drew ?_ | refine blk_alloc ?_ _)); exact BK1194.out)) : gb1214 ≠ gb1194)); clear HO_1185001; clear HO_1189000; clear HO_1195001; clear HO1208; clear HO1212; clear BK1174; clear BK1184; clear BK1188; clear BK1194; clear HB; have HO_1185001 := n0_; have HO_1189000 := n1_; have HO_1195001 := n2_; have HO1208 := n3_; have HO1212 := n4_; have BK1174 := n5_; have BK1184 := n6_; have BK1188 := n7_; have BK1194 := n8_; have HB := n9_; have BK1214 := n10_; have GW1214 := n11_; have GE1214 := n12_; have NB1174_1214 := n13_; have NB1214_1174 := n14_; have NB1184_1214 := n15_; have NB1214_1184 := n16_; have NB1188_1214 := n17_; have NB1214_1188 := n18_; have NB1194_1214 := n19_; have NB1214_1194 := n20_; clear n0_ n1_ n2_ n3_ n4_ n5_ n6_ n7_ n8_ n9_ n10_ n11_ n12_ n13_ n14_ n15_ n16_ n17_ n18_ n19_ n20_; clear hb hbox hg; have hnb120 := NB1214_1174.out; have hnc120 := NB1174_1214.out; have hnb121 := NB1214_1184.out; have hnc121 := NB1184_1214.out; have hnb122 := NB1214_1188.out; have hnc122 := NB1188_1214.out; have hnb123 := NB1214_1194.out; have hnc123 := NB1194_1214.out; have hcz124_0 : w119.cell? ⟨gb1214, 0, none⟩ = some (.int .i64 0) := (blk_cell BK1214.out 0).trans rfl; have hcz124_1 : w119.cell? ⟨gb1214, 1, none⟩ = some (.slice none 0 0) := (blk_cell BK1214.out 1).trans rfl; have hfz124_0 := blk_frozen BK1214.out 0; have hfz124_1 := blk_frozen BK1214.out 1; obtain ⟨Ao125, co125, eo125⟩ := Kd.R_slice HO1212.out; subst eo125))
                      (try simp only [Act.put, List.setIfInBounds_toArray, List.set_cons_zero, List.set_cons_succ])
                      go_cut [87] (fun v87 wc => ∃ (kq : Nat) (x87_104 : Bool), v87 = .bool x87_104 ∧ Aside0 (laws_FnExactTreeSpace.j2 kq t1203 x87_104 t1189 t1204 = some r) ∧ Aside0 (kq ≤ kj61) ∧ Aside0 (Kd.R (Kd.int .i64) 3 wc w.heap.size (fun k_ => some k_ ≠ ((.slice Ao26 t1201.length co26) : Value).ownBlock ∧ some k_ ≠ ((.slice Ao38 t1190.length co38) : Value).ownBlock ∧ some k_ ≠ ((.slice Ao125 t1210.length co125) : Value).ownBlock) (.slice Ao22 t1180.length co22) t1180) ∧ Aside0 (Kd.R (Kd.int .i64) 3 wc w.heap.size (fun k_ => some k_ ≠ ((.slice Ao22 t1180.length co22) : Value).ownBlock ∧ some k_ ≠ ((.slice Ao38 t1190.length co38) : Value).ownBlock ∧ some k_ ≠ ((.slice Ao125 t1210.length co125) : Value).ownBlock) (.slice Ao26 t1201.length co26) t1201) ∧ Aside0 (Kd.R (Kd.int .i64) 3 wc w.heap.size (fun k_ => some k_ ≠ ((.slice Ao22 t1180.length co22) : Value).ownBlock ∧ some k_ ≠ ((.slice Ao26 t1201.length co26) : Value).ownBlock ∧ some k_ ≠ ((.slice Ao125 t1210.length co125) : Value).ownBlock) (.slice Ao38 t1190.length co38) t1204) ∧ Aside0 (Kd.R (Kd.int .i64) 3 wc w.heap.size (fun k_ => some k_ ≠ ((.slice Ao22 t1180.length co22) : Value).ownBlock ∧ some k_ ≠ ((.slice Ao26 t1201.length co26) : Value).ownBlock ∧ some k_ ≠ ((.slice Ao38 t1190.length co38) : Value).ownBlock) (.slice Ao125 t1210.length co125) t1210) ∧ Aside0 (wc.heap[gb1174]? = some (.cells #[(.slice A0_0 l0_0.length c0_0)] 55 (0, 0))) ∧ Aside0 (wc.heap[gb1184]? = some (.cells #[.int .i64 t1179, (.slice Ao22 t1180.length co22)] 28 (0, 0))) ∧ Aside0 (wc.heap[gb1188]? = some (.cells #[(.slice Ao26 t1201.length co26)] 58 (0, 0))) ∧ Aside0 (wc.heap[gb1194]? = some (.cells #[.int .i64 t1189, (.slice Ao38 t1190.length co38)] 28 (0, 0))) ∧ Aside0 (wc.heap[gb1214]? = some (.cells #[.int .i64 t1209, (.slice Ao125 t1210.length co125)] 28 (0, 0))) ∧ Aside0 (Below w.heap.size w wc))
                      case first =>
                        have H := HC105.out
                        clear HC105
                        replace H := Option.bind_eq_some_iff.mp H
                        obtain ⟨t1215, A1260, H⟩ := H
                        replace H : (if t1215 = true then (laws_FnExactTreeSpace.j2 kj61 t1203 (t1213 != t1183) t1189 t1204) else (laws_FnExactTreeSpace.j2 kj61 t1203 true t1189 t1204)) = some r := H
                        have A126 := Aside0.mk A1260
                        clear A1260
                        by_cases c127 : t1215 = true
                        · subst c127
                          have H1 : (laws_FnExactTreeSpace.j2 kj61 t1203 (t1213 != t1183) t1189 t1204) = some r := by rw [if_pos rfl] at H; exact H
                          clear H
                          have H := H1
                          clear H1
                          have H' := Aside0.mk H
                          clear H
                          have hnb128 := NB1214_1174.out
                          have hnc128 := NB1174_1214.out
                          have hnb129 := NB1214_1184.out
                          have hnc129 := NB1184_1214.out
                          have hnb130 := NB1214_1188.out
                          have hnc130 := NB1188_1214.out
                          have hnb131 := NB1214_1194.out
                          have hnc131 := NB1194_1214.out
                          have hcz132_0 : w119.cell? ⟨gb1214, 0, none⟩ = some (.int .i64 0) := (blk_cell BK1214.out 0).trans rfl
                          have hcz132_1 : w119.cell? ⟨gb1214, 1, none⟩ = some (.slice none 0 0) := (blk_cell BK1214.out 1).trans rfl
                          have hfz132_0 := blk_frozen BK1214.out 0
                          have hfz132_1 := blk_frozen BK1214.out 1
                          have hnb133 := NB1184_1174.out
                          have hnc133 := NB1174_1184.out
                          have hnb134 := NB1184_1188.out
                          have hnc134 := NB1188_1184.out
                          have hnb135 := NB1184_1194.out
                          have hnc135 := NB1194_1184.out
                          have hcz136_0 : w119.cell? ⟨gb1184, 0, none⟩ = some (.int .i64 t1179) := (blk_cell BK1184.out 0).trans rfl
                          have hcz136_1 : w119.cell? ⟨gb1184, 1, none⟩ = some (.slice Ao22 t1180.length co22) := (blk_cell BK1184.out 1).trans rfl
                          have hfz136_0 := blk_frozen BK1184.out 0
                          have hfz136_1 := blk_frozen BK1184.out 1
                          go_wp2_with (first | ((with_reducible refine gate_callee (f := 19) rfl ?_); refine goesL_ (some 81) rfl rfl Try.func19 (by kernel_rfl) rfl #[.agg #[.int .i64 t1209, .slice Ao125 t1210.length co125], .agg #[.int .i64 t1179, .slice Ao22 t1180.length co22]] rfl (by (try simp only [List.map_toArray, List.map_cons, List.map_nil]); first | done | rfl | (simp only [List.length_drop, List.length_take]; rfl)) ?_; (with_reducible refine (laws_eqSpace.calls kj61 t1209 _ _ t1210 t1179 _ _ t1180 true _ ?side1 ?side2 ?side3 ?side4 A126.out).mono ?_); (case side1 => refine (Kd.R_reads' (e := 3) (base := w.heap.size) (ok := fun k_ => ((((True ∧ some k_ ≠ (.slice Ao22 t1180.length co22 : Value).ownBlock) ∧ some k_ ≠ (.slice Ao26 t1201.length co26 : Value).ownBlock) ∧ some k_ ≠ (.slice Ao38 t1190.length co38 : Value).ownBlock) ∧ some k_ ≠ (.slice Ao117 t1206.length co117 : Value).ownBlock)) (n := t1210.length) (c := co125) ?_).2.2; exact (by (with_reducible repeat (first | apply Kd.R_alloc | apply Kd.R_drewN | apply Kd.R_drew)); exact (Kd.R_mono (Kd.R_far (p := ⟨gb1214, 1, none⟩) (Kd.R_far (p := ⟨gb1214, 0, none⟩) (Kd.R_types HO1212.out BK1214.out (by decide)) (fun _ hk => hk.2) (.int .i64 t1209)) (fun _ hk => hk.2) (.slice Ao125 t1210.length co125)) (fun _ h_ => h_.1)))); (case side2 => exact (Kd.R_reads' HO1212.out).2.1); (case side3 => refine (Kd.R_reads' (e := 3) (base := w.heap.size) (ok := fun k_ => (((some k_ ≠ (.slice Ao26 t1201.length co26 : Value).ownBlock ∧ some k_ ≠ (.slice Ao38 t1190.length co38 : Value).ownBlock) ∧ some k_ ≠ (.slice Ao117 t1206.length co117 : Value).ownBlock) ∧ some k_ ≠ (.slice Ao125 t1210.length co125 : Value).ownBlock)) (n := t1180.length) (c := co22) ?_).2.2; exact (by (with_reducible repeat (first | apply Kd.R_alloc | apply Kd.R_drewN | apply Kd.R_drew)); exact (Kd.R_mono (Kd.R_far (p := ⟨gb1214, 1, none⟩) (Kd.R_far (p := ⟨gb1214, 0, none⟩) (Kd.R_types HO_1185001.out BK1214.out (by decide)) (fun _ hk => hk.2) (.int .i64 t1209)) (fun _ hk => hk.2) (.slice Ao125 t1210.length co125)) (fun _ h_ => h_.1)))); (case side4 => exact (Kd.R_reads' HO_1185001.out).2.1); rintro e w137 ⟨rfl, hb⟩; refine ⟨_, rfl, ?_⟩; have n0_ := Aside0.mk (Kd.R_below (by (with_reducible repeat (first | apply Kd.R_alloc | apply Kd.R_drewN | apply Kd.R_drew)); exact (Kd.R_mono (Kd.R_far (p := ⟨gb1214, 1, none⟩) (Kd.R_far (p := ⟨gb1214, 0, none⟩) (Kd.R_types HO_1185001.out BK1214.out (by decide)) (fun _ hk => hk.2) (.int .i64 t1209)) (fun _ hk => hk.2) (.slice Ao125 t1210.length co125)) (fun _ h_ => h_.1))) hb); have n1_ := Aside0.mk (Kd.R_below (by (with_reducible repeat (first | apply Kd.R_alloc | apply Kd.R_drewN | apply Kd.R_drew)); exact (Kd.R_mono (Kd.R_far (p := ⟨gb1214, 1, none⟩) (Kd.R_far (p := ⟨gb1214, 0, none⟩) (Kd.R_types HO_1189000.out BK1214.out (by decide)) (fun _ hk => hk.2) (.int .i64 t1209)) (fun _ hk => hk.2) (.slice Ao125 t1210.length co125)) (fun _ h_ => h_.1))) hb); have n2_ := Aside0.mk (Kd.R_below (by (with_reducible repeat (first | apply Kd.R_alloc | apply Kd.R_drewN | apply Kd.R_drew)); exact (Kd.R_mono (Kd.R_far (p := ⟨gb1214, 1, none⟩) (Kd.R_far (p := ⟨gb1214, 0, none⟩) (Kd.R_types HO_1195001.out BK1214.out (by decide)) (fun _ hk => hk.2) (.int .i64 t1209)) (fun _ hk => hk.2) (.slice Ao125 t1210.length co125)) (fun _ h_ => h_.1))) hb); have n3_ := Aside0.mk (Kd.R_below (by (with_reducible repeat (first | apply Kd.R_alloc | apply Kd.R_drewN | apply Kd.R_drew)); exact (Kd.R_mono (Kd.R_far (p := ⟨gb1214, 1, none⟩) (Kd.R_far (p := ⟨gb1214, 0, none⟩) (Kd.R_types HO1208.out BK1214.out (by decide)) (fun _ hk => hk.2) (.int .i64 t1209)) (fun _ hk => hk.2) (.slice Ao125 t1210.length co125)) (fun _ h_ => h_.1))) hb); have n4_ := Aside0.mk (Kd.R_below (by (with_reducible repeat (first | apply Kd.R_alloc | apply Kd.R_drewN | apply Kd.R_drew)); exact (Kd.R_mono (Kd.R_far (p := ⟨gb1214, 1, none⟩) (Kd.R_far (p := ⟨gb1214, 0, none⟩) (Kd.R_types HO1212.out BK1214.out (by decide)) (fun _ hk => hk.2) (.int .i64 t1209)) (fun _ hk => hk.2) (.slice Ao125 t1210.length co125)) (fun _ h_ => h_.1))) hb); have n5_ := Aside0.mk (blk_below (g := gb1174) (o := .cells #[.slice A0_0 l0_0.length c0_0] 55 (0, 0)) (by (with_reducible repeat (first | refine blk_drewN ?_ _ | refine blk_drew ?_ | refine blk_alloc ?_ _)); refine blk_far ?_ NB1174_1214.out _; (with_reducible repeat (first | refine blk_drewN ?_ _ | refine blk_drew ?_ | refine blk_alloc ?_ _)); refine blk_far ?_ NB1174_1214.out _; (with_reducible repeat (first | refine blk_drewN ?_ _ | refine blk_drew ?_ | refine blk_alloc ?_ _)); exact BK1174.out) hb); have n6_ := Aside0.mk (blk_below (g := gb1184) (o := .cells #[.int .i64 t1179, .slice Ao22 t1180.length co22] 28 (0, 0)) (by (with_reducible repeat (first | refine blk_drewN ?_ _ | refine blk_drew ?_ | refine blk_alloc ?_ _)); refine blk_far ?_ NB1184_1214.out _; (with_reducible repeat (first | refine blk_drewN ?_ _ | refine blk_drew ?_ | refine blk_alloc ?_ _)); refine blk_far ?_ NB1184_1214.out _; (with_reducible repeat (first | refine blk_drewN ?_ _ | refine blk_drew ?_ | refine blk_alloc ?_ _)); exact BK1184.out) hb); have n7_ := Aside0.mk (blk_below (g := gb1188) (o := .cells #[.slice Ao26 t1201.length co26] 58 (0, 0)) (by (with_reducible repeat (first | refine blk_drewN ?_ _ | refine blk_drew ?_ | refine blk_alloc ?_ _)); refine blk_far ?_ NB1188_1214.out _; (with_reducible repeat (first | refine blk_drewN ?_ _ | refine blk_drew ?_ | refine blk_alloc ?_ _)); refine blk_far ?_ NB1188_1214.out _; (with_reducible repeat (first | refine blk_drewN ?_ _ | refine blk_drew ?_ | refine blk_alloc ?_ _)); exact BK1188.out) hb); have n8_ := Aside0.mk (blk_below (g := gb1194) (o := .cells #[.int .i64 t1189, .slice Ao38 t1190.length co38] 28 (0, 0)) (by (with_reducible repeat (first | refine blk_drewN ?_ _ | refine blk_drew ?_ | refine blk_alloc ?_ _)); refine blk_far ?_ NB1194_1214.out _; (with_reducible repeat (first | refine blk_drewN ?_ _ | refine blk_drew ?_ | refine blk_alloc ?_ _)); refine blk_far ?_ NB1194_1214.out _; (with_reducible repeat (first | refine blk_drewN ?_ _ | refine blk_drew ?_ | refine blk_alloc ?_ _)); exact BK1194.out) hb); have n9_ := Aside0.mk (blk_below (g := gb1214) (o := .cells #[.int .i64 t1209, .slice Ao125 t1210.length co125] 28 (0, 0)) (by (with_reducible repeat (first | refine blk_drewN ?_ _ | refine blk_drew ?_ | refine blk_alloc ?_ _)); refine blk_put (cs := #[.int .i64 t1209, .slice none 0 0]) ?_ 1 _ rfl; (with_reducible repeat (first | refine blk_drewN ?_ _ | refine blk_drew ?_ | refine blk_alloc ?_ _)); refine blk_put (cs := #[.int .i64 0, .slice none 0 0]) ?_ 0 _ rfl; (with_reducible repeat (first | refine blk_drewN ?_ _ | refine blk_drew ?_ | refine blk_alloc ?_ _)); exact BK1214.out) hb); have n10_ := Aside0.mk (below_step (by repeat (first | (with_reducible first | exact HB.out | apply below_alloc | apply pw_below_drewN | apply below_drew1 | refine below_set ?_ GE1174.out | refine below_set ?_ GE1184.out | refine below_set ?_ GE1188.out | refine below_set ?_ GE1194.out | refine below_set ?_ GE1214.out) | exact HB.out)) hb); clear HO_1185001; clear HO_1189000; clear HO_1195001; clear HO1208; clear HO1212; clear BK1174; clear BK1184; clear BK1188; clear BK1194; clear BK1214; clear HB; have HO_1185001 := n0_; have HO_1189000 := n1_; have HO_1195001 := n2_; have HO1208 := n3_; have HO1212 := n4_; have BK1174 := n5_; have BK1184 := n6_; have BK1188 := n7_; have BK1194 := n8_; have BK1214 := n9_; have HB := n10_; clear n0_ n1_ n2_ n3_ n4_ n5_ n6_ n7_ n8_ n9_ n10_; (try clear hb); (try clear hb2); (try clear hk); (try clear hi)))
                          go_meet
                          case rel => exact ⟨_, ((t1213 != t1183)), (by first | rfl | (simp; done) | (simp [*]; done)), H', ⟨by have := HJ10.out; have := HJ61.out; first | omega | exact Nat.le_refl _⟩, ⟨by (try simp only [hl1189000_61]); (with_reducible repeat (first | apply Kd.R_alloc | apply Kd.R_drewN | apply Kd.R_drew)); exact Kd.R_mono HO_1185001.out (fun _ hk => ⟨hk.1.1.1, ⟨hk.1.1.2, hk.2⟩⟩)⟩, ⟨by (try simp only [hl1189000_61]); (with_reducible repeat (first | apply Kd.R_alloc | apply Kd.R_drewN | apply Kd.R_drew)); exact Kd.R_mono HO_1189000.out (fun _ hk => ⟨hk.1.1.1, ⟨hk.1.1.2, hk.2⟩⟩)⟩, ⟨by (try simp only [hl1189000_61]); (with_reducible repeat (first | apply Kd.R_alloc | apply Kd.R_drewN | apply Kd.R_drew)); exact Kd.R_mono HO_1195001.out (fun _ hk => ⟨hk.1.1.1, ⟨hk.1.1.2, hk.2⟩⟩)⟩, ⟨by (try simp only [hl1189000_61]); (with_reducible repeat (first | apply Kd.R_alloc | apply Kd.R_drewN | apply Kd.R_drew)); exact Kd.R_mono HO1212.out (fun _ hk => ⟨hk.1.1.1.2, ⟨hk.1.1.2, hk.1.2⟩⟩)⟩, ⟨by (try simp only [hl1189000_61]); (with_reducible repeat (first | refine blk_drewN ?_ _ | refine blk_drew ?_ | refine blk_alloc ?_ _)); exact BK1174.out⟩, ⟨by (try simp only [hl1189000_61]); (with_reducible repeat (first | refine blk_drewN ?_ _ | refine blk_drew ?_ | refine blk_alloc ?_ _)); exact BK1184.out⟩, ⟨by (try simp only [hl1189000_61]); (with_reducible repeat (first | refine blk_drewN ?_ _ | refine blk_drew ?_ | refine blk_alloc ?_ _)); exact BK1188.out⟩, ⟨by (try simp only [hl1189000_61]); (with_reducible repeat (first | refine blk_drewN ?_ _ | refine blk_drew ?_ | refine blk_alloc ?_ _)); exact BK1194.out⟩, ⟨by (try simp only [hl1189000_61]); (with_reducible repeat (first | refine blk_drewN ?_ _ | refine blk_drew ?_ | refine blk_alloc ?_ _)); exact BK1214.out⟩, ⟨by repeat (first | (with_reducible first | exact HB.out | apply below_alloc | apply pw_below_drewN | apply below_drew1 | refine below_set ?_ GE1174.out | refine below_set ?_ GE1184.out | refine below_set ?_ GE1188.out | refine below_set ?_ GE1194.out | refine below_set ?_ GE1214.out) | exact HB.out)⟩⟩
                        · replace c127 := Bool.eq_false_iff.mpr c127
                          subst c127
                          have H1 : (laws_FnExactTreeSpace.j2 kj61 t1203 true t1189 t1204) = some r := by rw [if_neg (show ¬ (false = true) by decide)] at H; exact H
                          clear H
                          have H := H1
                          clear H1
                          have H' := Aside0.mk H
                          clear H
                          have hnb138 := NB1214_1174.out
                          have hnc138 := NB1174_1214.out
                          have hnb139 := NB1214_1184.out
                          have hnc139 := NB1184_1214.out
                          have hnb140 := NB1214_1188.out
                          have hnc140 := NB1188_1214.out
                          have hnb141 := NB1214_1194.out
                          have hnc141 := NB1194_1214.out
                          have hcz142_0 : w119.cell? ⟨gb1214, 0, none⟩ = some (.int .i64 0) := (blk_cell BK1214.out 0).trans rfl
                          have hcz142_1 : w119.cell? ⟨gb1214, 1, none⟩ = some (.slice none 0 0) := (blk_cell BK1214.out 1).trans rfl
                          have hfz142_0 := blk_frozen BK1214.out 0
                          have hfz142_1 := blk_frozen BK1214.out 1
                          have hnb143 := NB1184_1174.out
                          have hnc143 := NB1174_1184.out
                          have hnb144 := NB1184_1188.out
                          have hnc144 := NB1188_1184.out
                          have hnb145 := NB1184_1194.out
                          have hnc145 := NB1194_1184.out
                          have hcz146_0 : w119.cell? ⟨gb1184, 0, none⟩ = some (.int .i64 t1179) := (blk_cell BK1184.out 0).trans rfl
                          have hcz146_1 : w119.cell? ⟨gb1184, 1, none⟩ = some (.slice Ao22 t1180.length co22) := (blk_cell BK1184.out 1).trans rfl
                          have hfz146_0 := blk_frozen BK1184.out 0
                          have hfz146_1 := blk_frozen BK1184.out 1
                          go_wp2_with (first | ((with_reducible refine gate_callee (f := 19) rfl ?_); refine goesL_ (some 81) rfl rfl Try.func19 (by kernel_rfl) rfl #[.agg #[.int .i64 t1209, .slice Ao125 t1210.length co125], .agg #[.int .i64 t1179, .slice Ao22 t1180.length co22]] rfl (by (try simp only [List.map_toArray, List.map_cons, List.map_nil]); first | done | rfl | (simp only [List.length_drop, List.length_take]; rfl)) ?_; (with_reducible refine (laws_eqSpace.calls kj61 t1209 _ _ t1210 t1179 _ _ t1180 false _ ?side1 ?side2 ?side3 ?side4 A126.out).mono ?_); (case side1 => refine (Kd.R_reads' (e := 3) (base := w.heap.size) (ok := fun k_ => ((((True ∧ some k_ ≠ (.slice Ao22 t1180.length co22 : Value).ownBlock) ∧ some k_ ≠ (.slice Ao26 t1201.length co26 : Value).ownBlock) ∧ some k_ ≠ (.slice Ao38 t1190.length co38 : Value).ownBlock) ∧ some k_ ≠ (.slice Ao117 t1206.length co117 : Value).ownBlock)) (n := t1210.length) (c := co125) ?_).2.2; exact (by (with_reducible repeat (first | apply Kd.R_alloc | apply Kd.R_drewN | apply Kd.R_drew)); exact (Kd.R_mono (Kd.R_far (p := ⟨gb1214, 1, none⟩) (Kd.R_far (p := ⟨gb1214, 0, none⟩) (Kd.R_types HO1212.out BK1214.out (by decide)) (fun _ hk => hk.2) (.int .i64 t1209)) (fun _ hk => hk.2) (.slice Ao125 t1210.length co125)) (fun _ h_ => h_.1)))); (case side2 => exact (Kd.R_reads' HO1212.out).2.1); (case side3 => refine (Kd.R_reads' (e := 3) (base := w.heap.size) (ok := fun k_ => (((some k_ ≠ (.slice Ao26 t1201.length co26 : Value).ownBlock ∧ some k_ ≠ (.slice Ao38 t1190.length co38 : Value).ownBlock) ∧ some k_ ≠ (.slice Ao117 t1206.length co117 : Value).ownBlock) ∧ some k_ ≠ (.slice Ao125 t1210.length co125 : Value).ownBlock)) (n := t1180.length) (c := co22) ?_).2.2; exact (by (with_reducible repeat (first | apply Kd.R_alloc | apply Kd.R_drewN | apply Kd.R_drew)); exact (Kd.R_mono (Kd.R_far (p := ⟨gb1214, 1, none⟩) (Kd.R_far (p := ⟨gb1214, 0, none⟩) (Kd.R_types HO_1185001.out BK1214.out (by decide)) (fun _ hk => hk.2) (.int .i64 t1209)) (fun _ hk => hk.2) (.slice Ao125 t1210.length co125)) (fun _ h_ => h_.1)))); (case side4 => exact (Kd.R_reads' HO_1185001.out).2.1); rintro e w147 ⟨rfl, hb⟩; refine ⟨_, rfl, ?_⟩; have n0_ := Aside0.mk (Kd.R_below (by (with_reducible repeat (first | apply Kd.R_alloc | apply Kd.R_drewN | apply Kd.R_drew)); exact (Kd.R_mono (Kd.R_far (p := ⟨gb1214, 1, none⟩) (Kd.R_far (p := ⟨gb1214, 0, none⟩) (Kd.R_types HO_1185001.out BK1214.out (by decide)) (fun _ hk => hk.2) (.int .i64 t1209)) (fun _ hk => hk.2) (.slice Ao125 t1210.length co125)) (fun _ h_ => h_.1))) hb); have n1_ := Aside0.mk (Kd.R_below (by (with_reducible repeat (first | apply Kd.R_alloc | apply Kd.R_drewN | apply Kd.R_drew)); exact (Kd.R_mono (Kd.R_far (p := ⟨gb1214, 1, none⟩) (Kd.R_far (p := ⟨gb1214, 0, none⟩) (Kd.R_types HO_1189000.out BK1214.out (by decide)) (fun _ hk => hk.2) (.int .i64 t1209)) (fun _ hk => hk.2) (.slice Ao125 t1210.length co125)) (fun _ h_ => h_.1))) hb); have n2_ := Aside0.mk (Kd.R_below (by (with_reducible repeat (first | apply Kd.R_alloc | apply Kd.R_drewN | apply Kd.R_drew)); exact (Kd.R_mono (Kd.R_far (p := ⟨gb1214, 1, none⟩) (Kd.R_far (p := ⟨gb1214, 0, none⟩) (Kd.R_types HO_1195001.out BK1214.out (by decide)) (fun _ hk => hk.2) (.int .i64 t1209)) (fun _ hk => hk.2) (.slice Ao125 t1210.length co125)) (fun _ h_ => h_.1))) hb); have n3_ := Aside0.mk (Kd.R_below (by (with_reducible repeat (first | apply Kd.R_alloc | apply Kd.R_drewN | apply Kd.R_drew)); exact (Kd.R_mono (Kd.R_far (p := ⟨gb1214, 1, none⟩) (Kd.R_far (p := ⟨gb1214, 0, none⟩) (Kd.R_types HO1208.out BK1214.out (by decide)) (fun _ hk => hk.2) (.int .i64 t1209)) (fun _ hk => hk.2) (.slice Ao125 t1210.length co125)) (fun _ h_ => h_.1))) hb); have n4_ := Aside0.mk (Kd.R_below (by (with_reducible repeat (first | apply Kd.R_alloc | apply Kd.R_drewN | apply Kd.R_drew)); exact (Kd.R_mono (Kd.R_far (p := ⟨gb1214, 1, none⟩) (Kd.R_far (p := ⟨gb1214, 0, none⟩) (Kd.R_types HO1212.out BK1214.out (by decide)) (fun _ hk => hk.2) (.int .i64 t1209)) (fun _ hk => hk.2) (.slice Ao125 t1210.length co125)) (fun _ h_ => h_.1))) hb); have n5_ := Aside0.mk (blk_below (g := gb1174) (o := .cells #[.slice A0_0 l0_0.length c0_0] 55 (0, 0)) (by (with_reducible repeat (first | refine blk_drewN ?_ _ | refine blk_drew ?_ | refine blk_alloc ?_ _)); refine blk_far ?_ NB1174_1214.out _; (with_reducible repeat (first | refine blk_drewN ?_ _ | refine blk_drew ?_ | refine blk_alloc ?_ _)); refine blk_far ?_ NB1174_1214.out _; (with_reducible repeat (first | refine blk_drewN ?_ _ | refine blk_drew ?_ | refine blk_alloc ?_ _)); exact BK1174.out) hb); have n6_ := Aside0.mk (blk_below (g := gb1184) (o := .cells #[.int .i64 t1179, .slice Ao22 t1180.length co22] 28 (0, 0)) (by (with_reducible repeat (first | refine blk_drewN ?_ _ | refine blk_drew ?_ | refine blk_alloc ?_ _)); refine blk_far ?_ NB1184_1214.out _; (with_reducible repeat (first | refine blk_drewN ?_ _ | refine blk_drew ?_ | refine blk_alloc ?_ _)); refine blk_far ?_ NB1184_1214.out _; (with_reducible repeat (first | refine blk_drewN ?_ _ | refine blk_drew ?_ | refine blk_alloc ?_ _)); exact BK1184.out) hb); have n7_ := Aside0.mk (blk_below (g := gb1188) (o := .cells #[.slice Ao26 t1201.length co26] 58 (0, 0)) (by (with_reducible repeat (first | refine blk_drewN ?_ _ | refine blk_drew ?_ | refine blk_alloc ?_ _)); refine blk_far ?_ NB1188_1214.out _; (with_reducible repeat (first | refine blk_drewN ?_ _ | refine blk_drew ?_ | refine blk_alloc ?_ _)); refine blk_far ?_ NB1188_1214.out _; (with_reducible repeat (first | refine blk_drewN ?_ _ | refine blk_drew ?_ | refine blk_alloc ?_ _)); exact BK1188.out) hb); have n8_ := Aside0.mk (blk_below (g := gb1194) (o := .cells #[.int .i64 t1189, .slice Ao38 t1190.length co38] 28 (0, 0)) (by (with_reducible repeat (first | refine blk_drewN ?_ _ | refine blk_drew ?_ | refine blk_alloc ?_ _)); refine blk_far ?_ NB1194_1214.out _; (with_reducible repeat (first | refine blk_drewN ?_ _ | refine blk_drew ?_ | refine blk_alloc ?_ _)); refine blk_far ?_ NB1194_1214.out _; (with_reducible repeat (first | refine blk_drewN ?_ _ | refine blk_drew ?_ | refine blk_alloc ?_ _)); exact BK1194.out) hb); have n9_ := Aside0.mk (blk_below (g := gb1214) (o := .cells #[.int .i64 t1209, .slice Ao125 t1210.length co125] 28 (0, 0)) (by (with_reducible repeat (first | refine blk_drewN ?_ _ | refine blk_drew ?_ | refine blk_alloc ?_ _)); refine blk_put (cs := #[.int .i64 t1209, .slice none 0 0]) ?_ 1 _ rfl; (with_reducible repeat (first | refine blk_drewN ?_ _ | refine blk_drew ?_ | refine blk_alloc ?_ _)); refine blk_put (cs := #[.int .i64 0, .slice none 0 0]) ?_ 0 _ rfl; (with_reducible repeat (first | refine blk_drewN ?_ _ | refine blk_drew ?_ | refine blk_alloc ?_ _)); exact BK1214.out) hb); have n10_ := Aside0.mk (below_step (by repeat (first | (with_reducible first | exact HB.out | apply below_alloc | apply pw_below_drewN | apply below_drew1 | refine below_set ?_ GE1174.out | refine below_set ?_ GE1184.out | refine below_set ?_ GE1188.out | refine below_set ?_ GE1194.out | refine below_set ?_ GE1214.out) | exact HB.out)) hb); clear HO_1185001; clear HO_1189000; clear HO_1195001; clear HO1208; clear HO1212; clear BK1174; clear BK1184; clear BK1188; clear BK1194; clear BK1214; clear HB; have HO_1185001 := n0_; have HO_1189000 := n1_; have HO_1195001 := n2_; have HO1208 := n3_; have HO1212 := n4_; have BK1174 := n5_; have BK1184 := n6_; have BK1188 := n7_; have BK1194 := n8_; have BK1214 := n9_; have HB := n10_; clear n0_ n1_ n2_ n3_ n4_ n5_ n6_ n7_ n8_ n9_ n10_; (try clear hb); (try clear hb2); (try clear hk); (try clear hi)))
                          go_meet
                          case rel => exact ⟨_, (true), (by first | rfl | (simp; done) | (simp [*]; done)), H', ⟨by have := HJ10.out; have := HJ61.out; first | omega | exact Nat.le_refl _⟩, ⟨by (try simp only [hl1189000_61]); (with_reducible repeat (first | apply Kd.R_alloc | apply Kd.R_drewN | apply Kd.R_drew)); exact Kd.R_mono HO_1185001.out (fun _ hk => ⟨hk.1.1.1, ⟨hk.1.1.2, hk.2⟩⟩)⟩, ⟨by (try simp only [hl1189000_61]); (with_reducible repeat (first | apply Kd.R_alloc | apply Kd.R_drewN | apply Kd.R_drew)); exact Kd.R_mono HO_1189000.out (fun _ hk => ⟨hk.1.1.1, ⟨hk.1.1.2, hk.2⟩⟩)⟩, ⟨by (try simp only [hl1189000_61]); (with_reducible repeat (first | apply Kd.R_alloc | apply Kd.R_drewN | apply Kd.R_drew)); exact Kd.R_mono HO_1195001.out (fun _ hk => ⟨hk.1.1.1, ⟨hk.1.1.2, hk.2⟩⟩)⟩, ⟨by (try simp only [hl1189000_61]); (with_reducible repeat (first | apply Kd.R_alloc | apply Kd.R_drewN | apply Kd.R_drew)); exact Kd.R_mono HO1212.out (fun _ hk => ⟨hk.1.1.1.2, ⟨hk.1.1.2, hk.1.2⟩⟩)⟩, ⟨by (try simp only [hl1189000_61]); (with_reducible repeat (first | refine blk_drewN ?_ _ | refine blk_drew ?_ | refine blk_alloc ?_ _)); exact BK1174.out⟩, ⟨by (try simp only [hl1189000_61]); (with_reducible repeat (first | refine blk_drewN ?_ _ | refine blk_drew ?_ | refine blk_alloc ?_ _)); exact BK1184.out⟩, ⟨by (try simp only [hl1189000_61]); (with_reducible repeat (first | refine blk_drewN ?_ _ | refine blk_drew ?_ | refine blk_alloc ?_ _)); exact BK1188.out⟩, ⟨by (try simp only [hl1189000_61]); (with_reducible repeat (first | refine blk_drewN ?_ _ | refine blk_drew ?_ | refine blk_alloc ?_ _)); exact BK1194.out⟩, ⟨by (try simp only [hl1189000_61]); (with_reducible repeat (first | refine blk_drewN ?_ _ | refine blk_drew ?_ | refine blk_alloc ?_ _)); exact BK1214.out⟩, ⟨by repeat (first | (with_reducible first | exact HB.out | apply below_alloc | apply pw_below_drewN | apply below_drew1 | refine below_set ?_ GE1174.out | refine below_set ?_ GE1184.out | refine below_set ?_ GE1188.out | refine below_set ?_ GE1194.out | refine below_set ?_ GE1214.out) | exact HB.out)⟩⟩
                      case rest =>
                        clear HC105
                        try clear c1
                        try clear c2
                        try clear p2
                        try clear c3
                        try clear c3b0
                        try clear c4
                        try clear c5
                        try clear c6
                        try clear c7
                        try clear c8
                        try clear c9
                        try clear c10
                        try clear c11
                        try clear c12
                        try clear c13
                        try clear c14
                        try clear c19
                        try clear c20
                        try clear c25
                        try clear c26
                        try clear c27
                        try clear c28
                        try clear c34
                        try clear c35
                        try clear c36
                        try clear c40
                        try clear c41
                        try clear c42
                        try clear c43
                        try clear c45
                        try clear c46
                        try clear c47
                        try clear c48
                        try clear c49
                        try clear c50
                        try clear c51
                        try clear c53
                        try clear c54
                        try clear c57
                        try clear c60
                        try clear c67
                        try clear c68
                        try clear c69
                        try clear c72
                        try clear c72b0
                        try clear c74
                        try clear c75
                        try clear c76
                        try clear c77
                        try clear c79
                        try clear c80
                        try clear c83
                        try clear c84
                        try clear c85
                        try clear c87
                        try clear c88
                        try clear c91
                        try clear c94
                        try clear c94b0
                        try clear c95
                        try clear c96
                        try clear c97
                        try clear c102
                        try clear c102b0
                        try clear c102b1
                        try clear c106
                        try clear c107
                        try clear c108
                        try clear c113
                        try clear c114
                        try clear c120
                        try clear c121
                        try clear c122
                        try clear c123
                        try clear c127
                        try clear c128
                        try clear c129
                        try clear c130
                        try clear c131
                        try clear c133
                        try clear c134
                        try clear c135
                        try clear c138
                        try clear c139
                        try clear c140
                        try clear c141
                        try clear c143
                        try clear c144
                        try clear c145
                        try clear hcz100_0
                        try clear hcz100_1
                        try clear hcz109_0
                        try clear hcz109_1
                        try clear hcz111_0
                        try clear hcz111_1
                        try clear hcz115_0
                        try clear hcz124_0
                        try clear hcz124_1
                        try clear hcz132_0
                        try clear hcz132_1
                        try clear hcz136_0
                        try clear hcz136_1
                        try clear hcz13_0
                        try clear hcz142_0
                        try clear hcz142_1
                        try clear hcz146_0
                        try clear hcz146_1
                        try clear hcz15_0
                        try clear hcz21_0
                        try clear hcz21_1
                        try clear hcz23_0
                        try clear hcz29_0
                        try clear hcz31_0
                        try clear hcz37_0
                        try clear hcz37_1
                        try clear hcz44_0
                        try clear hcz44_1
                        try clear hcz47_0
                        try clear hcz47_1
                        try clear hcz52_0
                        try clear hcz52_1
                        try clear hcz55_0
                        try clear hcz55_1
                        try clear hcz5_0
                        try clear hcz70_0
                        try clear hcz78_0
                        try clear hcz78_1
                        try clear hcz81_0
                        try clear hcz81_1
                        try clear hcz86_0
                        try clear hcz86_1
                        try clear hcz89_0
                        try clear hcz89_1
                        try clear hcz98_0
                        try clear hcz98_1
                        try clear hfz100_0
                        try clear hfz100_1
                        try clear hfz109_0
                        try clear hfz109_1
                        try clear hfz111_0
                        try clear hfz111_1
                        try clear hfz115_0
                        try clear hfz124_0
                        try clear hfz124_1
                        try clear hfz132_0
                        try clear hfz132_1
                        try clear hfz136_0
                        try clear hfz136_1
                        try clear hfz13_0
                        try clear hfz142_0
                        try clear hfz142_1
                        try clear hfz146_0
                        try clear hfz146_1
                        try clear hfz15_0
                        try clear hfz21_0
                        try clear hfz21_1
                        try clear hfz23_0
                        try clear hfz29_0
                        try clear hfz31_0
                        try clear hfz37_0
                        try clear hfz37_1
                        try clear hfz44_0
                        try clear hfz44_1
                        try clear hfz47_0
                        try clear hfz47_1
                        try clear hfz52_0
                        try clear hfz52_1
                        try clear hfz55_0
                        try clear hfz55_1
                        try clear hfz5_0
                        try clear hfz70_0
                        try clear hfz78_0
                        try clear hfz78_1
                        try clear hfz81_0
                        try clear hfz81_1
                        try clear hfz86_0
                        try clear hfz86_1
                        try clear hfz89_0
                        try clear hfz89_1
                        try clear hfz98_0
                        try clear hfz98_1
                        try clear p2
                        obtain ⟨kq, x87_104, rfl, HA, HJ104, HO_1185001, HO_1189000, HO_1195001, HO_1215001, BK1174, BK1184, BK1188, BK1194, BK1214, HB⟩ := hcut
                        have hl1195001_104 := (Kd.R_reads' HO_1195001.out).1
                        rw [hl1195001_104] at HO_1195001
                        (try simp only [hl1195001_104])
                        (try simp only [hl1195001_104] at BK1174)
                        (try simp only [hl1195001_104] at BK1184)
                        (try simp only [hl1195001_104] at BK1188)
                        (try simp only [hl1195001_104] at BK1194)
                        (try simp only [hl1195001_104] at BK1214)
                        (try simp only [hl1195001_104] at HO_1185001)
                        (try simp only [hl1195001_104] at HO_1189000)
                        (try simp only [hl1195001_104] at HO_1215001)
                        cases kq with
                        | zero => exact absurd HA.out (by simp [laws_FnExactTreeSpace.j2])
                        | succ kj104 =>
                          have H := HA.out
                          clear HA
                          simp only [laws_FnExactTreeSpace.j2] at H
                          by_cases c148 : x87_104 = true
                          · subst c148
                            have H1 : (some false) = some r := by rw [if_pos rfl] at H; exact H
                            clear H
                            have H := H1
                            clear H1
                            obtain rfl := Option.some.inj H
                            go_wp2
                            go_ret
                            exact ⟨by first | rfl | (simp [errW_none, errW_some] <;> rfl) | (simp [*, errW_none, errW_some] <;> rfl), by repeat (first | (with_reducible first | exact HB.out | apply below_alloc | apply pw_below_drewN | apply below_drew1 | refine below_set ?_ GE1174.out | refine below_set ?_ GE1184.out | refine below_set ?_ GE1188.out | refine below_set ?_ GE1194.out | refine below_set ?_ GE1214.out) | exact HB.out)⟩
                          · replace c148 := Bool.eq_false_iff.mpr c148
                            subst c148
                            have H1 : ((laws_heldSpace.f kj104 t1189 t1204 1).bind fun t1216 => (if t1216 < 0 then (some false) else (if t1216 = t1203 then (some true) else (some false)))) = some r := by rw [if_neg (show ¬ (false = true) by decide)] at H; exact H
                            clear H
                            have H := H1
                            clear H1
                            replace H := Option.bind_eq_some_iff.mp H
                            obtain ⟨t1216, A1490, H⟩ := H
                            replace H : (if t1216 < 0 then (some false) else (if t1216 = t1203 then (some true) else (some false))) = some r := H
                            have A149 := Aside0.mk A1490
                            clear A1490
                            by_cases c150 : t1216 < 0
                            · rw [if_pos c150] at H
                              have c150b0 : decide (t1216 < 0) = true := decide_eq_true c150
                              clear c150
                              obtain rfl := Option.some.inj H
                              have hnb151 := NB1194_1174.out
                              have hnc151 := NB1174_1194.out
                              have hnb152 := NB1194_1184.out
                              have hnc152 := NB1184_1194.out
                              have hnb153 := NB1194_1188.out
                              have hnc153 := NB1188_1194.out
                              have hnb154 := NB1194_1214.out
                              have hnc154 := NB1214_1194.out
                              have hcz155_0 : wc.cell? ⟨gb1194, 0, none⟩ = some (.int .i64 t1189) := (blk_cell BK1194.out 0).trans rfl
                              have hcz155_1 : wc.cell? ⟨gb1194, 1, none⟩ = some (.slice Ao38 t1204.length co38) := (blk_cell BK1194.out 1).trans rfl
                              have hfz155_0 := blk_frozen BK1194.out 0
                              have hfz155_1 := blk_frozen BK1194.out 1
                              go_wp2_with (first | ((with_reducible refine gate_callee (f := 26) rfl ?_); refine goesL_ (some 90) rfl rfl Try.func26 (by kernel_rfl) rfl #[.agg #[.int .i64 t1189, .slice Ao38 t1204.length co38], .int .i64 1] rfl (by (try simp only [List.map_toArray, List.map_cons, List.map_nil]); first | done | rfl | (simp only [List.length_drop, List.length_take]; rfl)) ?_; (with_reducible refine (laws_heldSpace.calls kj104 t1189 _ _ t1204 1 t1216 _ ?side1 ?side2 A149.out).mono ?_); (case side1 => repeat (first | exact (Kd.R_reads' HO_1195001.out).2.2 | (with_reducible refine Kd.C_alloc ?_ _) | (with_reducible refine Kd.C_drewN ?_ _) | (with_reducible refine Kd.C_drew ?_))); (case side2 => exact (Kd.R_reads' HO_1195001.out).2.1); rintro e w156 ⟨rfl, hb⟩; refine ⟨_, rfl, ?_⟩; have n0_ := Aside0.mk (Kd.R_below (by (with_reducible repeat (first | apply Kd.R_alloc | apply Kd.R_drewN | apply Kd.R_drew)); exact HO_1185001.out) hb); have n1_ := Aside0.mk (Kd.R_below (by (with_reducible repeat (first | apply Kd.R_alloc | apply Kd.R_drewN | apply Kd.R_drew)); exact HO_1189000.out) hb); have n2_ := Aside0.mk (Kd.R_below (by (with_reducible repeat (first | apply Kd.R_alloc | apply Kd.R_drewN | apply Kd.R_drew)); exact HO_1195001.out) hb); have n3_ := Aside0.mk (Kd.R_below (by (with_reducible repeat (first | apply Kd.R_alloc | apply Kd.R_drewN | apply Kd.R_drew)); exact HO_1215001.out) hb); have n4_ := Aside0.mk (blk_below (g := gb1174) (o := .cells #[.slice A0_0 l0_0.length c0_0] 55 (0, 0)) (by (with_reducible repeat (first | refine blk_drewN ?_ _ | refine blk_drew ?_ | refine blk_alloc ?_ _)); exact BK1174.out) hb); have n5_ := Aside0.mk (blk_below (g := gb1184) (o := .cells #[.int .i64 t1179, .slice Ao22 t1180.length co22] 28 (0, 0)) (by (with_reducible repeat (first | refine blk_drewN ?_ _ | refine blk_drew ?_ | refine blk_alloc ?_ _)); exact BK1184.out) hb); have n6_ := Aside0.mk (blk_below (g := gb1188) (o := .cells #[.slice Ao26 t1201.length co26] 58 (0, 0)) (by (with_reducible repeat (first | refine blk_drewN ?_ _ | refine blk_drew ?_ | refine blk_alloc ?_ _)); exact BK1188.out) hb); have n7_ := Aside0.mk (blk_below (g := gb1194) (o := .cells #[.int .i64 t1189, .slice Ao38 t1204.length co38] 28 (0, 0)) (by (with_reducible repeat (first | refine blk_drewN ?_ _ | refine blk_drew ?_ | refine blk_alloc ?_ _)); exact BK1194.out) hb); have n8_ := Aside0.mk (blk_below (g := gb1214) (o := .cells #[.int .i64 t1209, .slice Ao125 t1210.length co125] 28 (0, 0)) (by (with_reducible repeat (first | refine blk_drewN ?_ _ | refine blk_drew ?_ | refine blk_alloc ?_ _)); exact BK1214.out) hb); have n9_ := Aside0.mk (below_step (by repeat (first | (with_reducible first | exact HB.out | apply below_alloc | apply pw_below_drewN | apply below_drew1 | refine below_set ?_ GE1174.out | refine below_set ?_ GE1184.out | refine below_set ?_ GE1188.out | refine below_set ?_ GE1194.out | refine below_set ?_ GE1214.out) | exact HB.out)) hb); clear HO_1185001; clear HO_1189000; clear HO_1195001; clear HO_1215001; clear BK1174; clear BK1184; clear BK1188; clear BK1194; clear BK1214; clear HB; have HO_1185001 := n0_; have HO_1189000 := n1_; have HO_1195001 := n2_; have HO_1215001 := n3_; have BK1174 := n4_; have BK1184 := n5_; have BK1188 := n6_; have BK1194 := n7_; have BK1214 := n8_; have HB := n9_; clear n0_ n1_ n2_ n3_ n4_ n5_ n6_ n7_ n8_ n9_; (try clear hb); (try clear hb2); (try clear hk); (try clear hi)))
                              go_ret
                              exact ⟨by first | rfl | (simp [errW_none, errW_some] <;> rfl) | (simp [*, errW_none, errW_some] <;> rfl), by repeat (first | (with_reducible first | exact HB.out | apply below_alloc | apply pw_below_drewN | apply below_drew1 | refine below_set ?_ GE1174.out | refine below_set ?_ GE1184.out | refine below_set ?_ GE1188.out | refine below_set ?_ GE1194.out | refine below_set ?_ GE1214.out) | exact HB.out)⟩
                            · rw [if_neg c150] at H
                              have c150b0 : decide (t1216 < 0) = false := decide_eq_false c150
                              clear c150
                              by_cases c157 : t1216 = t1203
                              · rw [if_pos c157] at H
                                have c157b0 : (t1216 == t1203) = true := beq_iff_eq.mpr c157
                                have c157b1 : (t1216 != t1203) = false := bne_eq_false_iff_eq.mpr c157
                                clear c157
                                obtain rfl := Option.some.inj H
                                have hnb158 := NB1194_1174.out
                                have hnc158 := NB1174_1194.out
                                have hnb159 := NB1194_1184.out
                                have hnc159 := NB1184_1194.out
                                have hnb160 := NB1194_1188.out
                                have hnc160 := NB1188_1194.out
                                have hnb161 := NB1194_1214.out
                                have hnc161 := NB1214_1194.out
                                have hcz162_0 : wc.cell? ⟨gb1194, 0, none⟩ = some (.int .i64 t1189) := (blk_cell BK1194.out 0).trans rfl
                                have hcz162_1 : wc.cell? ⟨gb1194, 1, none⟩ = some (.slice Ao38 t1204.length co38) := (blk_cell BK1194.out 1).trans rfl
                                have hfz162_0 := blk_frozen BK1194.out 0
                                have hfz162_1 := blk_frozen BK1194.out 1
                                go_wp2_with (first | ((with_reducible refine gate_callee (f := 26) rfl ?_); refine goesL_ (some 90) rfl rfl Try.func26 (by kernel_rfl) rfl #[.agg #[.int .i64 t1189, .slice Ao38 t1204.length co38], .int .i64 1] rfl (by (try simp only [List.map_toArray, List.map_cons, List.map_nil]); first | done | rfl | (simp only [List.length_drop, List.length_take]; rfl)) ?_; (with_reducible refine (laws_heldSpace.calls kj104 t1189 _ _ t1204 1 t1216 _ ?side1 ?side2 A149.out).mono ?_); (case side1 => repeat (first | exact (Kd.R_reads' HO_1195001.out).2.2 | (with_reducible refine Kd.C_alloc ?_ _) | (with_reducible refine Kd.C_drewN ?_ _) | (with_reducible refine Kd.C_drew ?_))); (case side2 => exact (Kd.R_reads' HO_1195001.out).2.1); rintro e w163 ⟨rfl, hb⟩; refine ⟨_, rfl, ?_⟩; have n0_ := Aside0.mk (Kd.R_below (by (with_reducible repeat (first | apply Kd.R_alloc | apply Kd.R_drewN | apply Kd.R_drew)); exact HO_1185001.out) hb); have n1_ := Aside0.mk (Kd.R_below (by (with_reducible repeat (first | apply Kd.R_alloc | apply Kd.R_drewN | apply Kd.R_drew)); exact HO_1189000.out) hb); have n2_ := Aside0.mk (Kd.R_below (by (with_reducible repeat (first | apply Kd.R_alloc | apply Kd.R_drewN | apply Kd.R_drew)); exact HO_1195001.out) hb); have n3_ := Aside0.mk (Kd.R_below (by (with_reducible repeat (first | apply Kd.R_alloc | apply Kd.R_drewN | apply Kd.R_drew)); exact HO_1215001.out) hb); have n4_ := Aside0.mk (blk_below (g := gb1174) (o := .cells #[.slice A0_0 l0_0.length c0_0] 55 (0, 0)) (by (with_reducible repeat (first | refine blk_drewN ?_ _ | refine blk_drew ?_ | refine blk_alloc ?_ _)); exact BK1174.out) hb); have n5_ := Aside0.mk (blk_below (g := gb1184) (o := .cells #[.int .i64 t1179, .slice Ao22 t1180.length co22] 28 (0, 0)) (by (with_reducible repeat (first | refine blk_drewN ?_ _ | refine blk_drew ?_ | refine blk_alloc ?_ _)); exact BK1184.out) hb); have n6_ := Aside0.mk (blk_below (g := gb1188) (o := .cells #[.slice Ao26 t1201.length co26] 58 (0, 0)) (by (with_reducible repeat (first | refine blk_drewN ?_ _ | refine blk_drew ?_ | refine blk_alloc ?_ _)); exact BK1188.out) hb); have n7_ := Aside0.mk (blk_below (g := gb1194) (o := .cells #[.int .i64 t1189, .slice Ao38 t1204.length co38] 28 (0, 0)) (by (with_reducible repeat (first | refine blk_drewN ?_ _ | refine blk_drew ?_ | refine blk_alloc ?_ _)); exact BK1194.out) hb); have n8_ := Aside0.mk (blk_below (g := gb1214) (o := .cells #[.int .i64 t1209, .slice Ao125 t1210.length co125] 28 (0, 0)) (by (with_reducible repeat (first | refine blk_drewN ?_ _ | refine blk_drew ?_ | refine blk_alloc ?_ _)); exact BK1214.out) hb); have n9_ := Aside0.mk (below_step (by repeat (first | (with_reducible first | exact HB.out | apply below_alloc | apply pw_below_drewN | apply below_drew1 | refine below_set ?_ GE1174.out | refine below_set ?_ GE1184.out | refine below_set ?_ GE1188.out | refine below_set ?_ GE1194.out | refine below_set ?_ GE1214.out) | exact HB.out)) hb); clear HO_1185001; clear HO_1189000; clear HO_1195001; clear HO_1215001; clear BK1174; clear BK1184; clear BK1188; clear BK1194; clear BK1214; clear HB; have HO_1185001 := n0_; have HO_1189000 := n1_; have HO_1195001 := n2_; have HO_1215001 := n3_; have BK1174 := n4_; have BK1184 := n5_; have BK1188 := n6_; have BK1194 := n7_; have BK1214 := n8_; have HB := n9_; clear n0_ n1_ n2_ n3_ n4_ n5_ n6_ n7_ n8_ n9_; (try clear hb); (try clear hb2); (try clear hk); (try clear hi)))
                                go_ret
                                exact ⟨by first | rfl | (simp [errW_none, errW_some] <;> rfl) | (simp [*, errW_none, errW_some] <;> rfl), by repeat (first | (with_reducible first | exact HB.out | apply below_alloc | apply pw_below_drewN | apply below_drew1 | refine below_set ?_ GE1174.out | refine below_set ?_ GE1184.out | refine below_set ?_ GE1188.out | refine below_set ?_ GE1194.out | refine below_set ?_ GE1214.out) | exact HB.out)⟩
                              · rw [if_neg c157] at H
                                have c157b0 : (t1216 == t1203) = false := beq_eq_false_iff_ne.mpr c157
                                have c157b1 : (t1216 != t1203) = true := bne_iff_ne.mpr c157
                                obtain rfl := Option.some.inj H
                                have hnb164 := NB1194_1174.out
                                have hnc164 := NB1174_1194.out
                                have hnb165 := NB1194_1184.out
                                have hnc165 := NB1184_1194.out
                                have hnb166 := NB1194_1188.out
                                have hnc166 := NB1188_1194.out
                                have hnb167 := NB1194_1214.out
                                have hnc167 := NB1214_1194.out
                                have hcz168_0 : wc.cell? ⟨gb1194, 0, none⟩ = some (.int .i64 t1189) := (blk_cell BK1194.out 0).trans rfl
                                have hcz168_1 : wc.cell? ⟨gb1194, 1, none⟩ = some (.slice Ao38 t1204.length co38) := (blk_cell BK1194.out 1).trans rfl
                                have hfz168_0 := blk_frozen BK1194.out 0
                                have hfz168_1 := blk_frozen BK1194.out 1
                                go_wp2_with (first | ((with_reducible refine gate_callee (f := 26) rfl ?_); refine goesL_ (some 90) rfl rfl Try.func26 (by kernel_rfl) rfl #[.agg #[.int .i64 t1189, .slice Ao38 t1204.length co38], .int .i64 1] rfl (by (try simp only [List.map_toArray, List.map_cons, List.map_nil]); first | done | rfl | (simp only [List.length_drop, List.length_take]; rfl)) ?_; (with_reducible refine (laws_heldSpace.calls kj104 t1189 _ _ t1204 1 t1216 _ ?side1 ?side2 A149.out).mono ?_); (case side1 => repeat (first | exact (Kd.R_reads' HO_1195001.out).2.2 | (with_reducible refine Kd.C_alloc ?_ _) | (with_reducible refine Kd.C_drewN ?_ _) | (with_reducible refine Kd.C_drew ?_))); (case side2 => exact (Kd.R_reads' HO_1195001.out).2.1); rintro e w169 ⟨rfl, hb⟩; refine ⟨_, rfl, ?_⟩; have n0_ := Aside0.mk (Kd.R_below (by (with_reducible repeat (first | apply Kd.R_alloc | apply Kd.R_drewN | apply Kd.R_drew)); exact HO_1185001.out) hb); have n1_ := Aside0.mk (Kd.R_below (by (with_reducible repeat (first | apply Kd.R_alloc | apply Kd.R_drewN | apply Kd.R_drew)); exact HO_1189000.out) hb); have n2_ := Aside0.mk (Kd.R_below (by (with_reducible repeat (first | apply Kd.R_alloc | apply Kd.R_drewN | apply Kd.R_drew)); exact HO_1195001.out) hb); have n3_ := Aside0.mk (Kd.R_below (by (with_reducible repeat (first | apply Kd.R_alloc | apply Kd.R_drewN | apply Kd.R_drew)); exact HO_1215001.out) hb); have n4_ := Aside0.mk (blk_below (g := gb1174) (o := .cells #[.slice A0_0 l0_0.length c0_0] 55 (0, 0)) (by (with_reducible repeat (first | refine blk_drewN ?_ _ | refine blk_drew ?_ | refine blk_alloc ?_ _)); exact BK1174.out) hb); have n5_ := Aside0.mk (blk_below (g := gb1184) (o := .cells #[.int .i64 t1179, .slice Ao22 t1180.length co22] 28 (0, 0)) (by (with_reducible repeat (first | refine blk_drewN ?_ _ | refine blk_drew ?_ | refine blk_alloc ?_ _)); exact BK1184.out) hb); have n6_ := Aside0.mk (blk_below (g := gb1188) (o := .cells #[.slice Ao26 t1201.length co26] 58 (0, 0)) (by (with_reducible repeat (first | refine blk_drewN ?_ _ | refine blk_drew ?_ | refine blk_alloc ?_ _)); exact BK1188.out) hb); have n7_ := Aside0.mk (blk_below (g := gb1194) (o := .cells #[.int .i64 t1189, .slice Ao38 t1204.length co38] 28 (0, 0)) (by (with_reducible repeat (first | refine blk_drewN ?_ _ | refine blk_drew ?_ | refine blk_alloc ?_ _)); exact BK1194.out) hb); have n8_ := Aside0.mk (blk_below (g := gb1214) (o := .cells #[.int .i64 t1209, .slice Ao125 t1210.length co125] 28 (0, 0)) (by (with_reducible repeat (first | refine blk_drewN ?_ _ | refine blk_drew ?_ | refine blk_alloc ?_ _)); exact BK1214.out) hb); have n9_ := Aside0.mk (below_step (by repeat (first | (with_reducible first | exact HB.out | apply below_alloc | apply pw_below_drewN | apply below_drew1 | refine below_set ?_ GE1174.out | refine below_set ?_ GE1184.out | refine below_set ?_ GE1188.out | refine below_set ?_ GE1194.out | refine below_set ?_ GE1214.out) | exact HB.out)) hb); clear HO_1185001; clear HO_1189000; clear HO_1195001; clear HO_1215001; clear BK1174; clear BK1184; clear BK1188; clear BK1194; clear BK1214; clear HB; have HO_1185001 := n0_; have HO_1189000 := n1_; have HO_1195001 := n2_; have HO_1215001 := n3_; have BK1174 := n4_; have BK1184 := n5_; have BK1188 := n6_; have BK1194 := n7_; have BK1214 := n8_; have HB := n9_; clear n0_ n1_ n2_ n3_ n4_ n5_ n6_ n7_ n8_ n9_; (try clear hb); (try clear hb2); (try clear hk); (try clear hi)))
                                go_ret
                                exact ⟨by first | rfl | (simp [errW_none, errW_some] <;> rfl) | (simp [*, errW_none, errW_some] <;> rfl), by repeat (first | (with_reducible first | exact HB.out | apply below_alloc | apply pw_below_drewN | apply below_drew1 | refine below_set ?_ GE1174.out | refine below_set ?_ GE1184.out | refine below_set ?_ GE1188.out | refine below_set ?_ GE1194.out | refine below_set ?_ GE1214.out) | exact HB.out)⟩
                    · rw [if_neg c102] at H
                      have c102b0 : (t1205 == t1203) = false := beq_eq_false_iff_ne.mpr c102
                      have c102b1 : (t1205 != t1203) = true := bne_iff_ne.mpr c102
                      obtain rfl := Option.some.inj H
                      have hnb170 := NB1194_1174.out
                      have hnc170 := NB1174_1194.out
                      have hnb171 := NB1194_1184.out
                      have hnc171 := NB1184_1194.out
                      have hnb172 := NB1194_1188.out
                      have hnc172 := NB1188_1194.out
                      have hcz173_0 : wc.cell? ⟨gb1194, 0, none⟩ = some (.int .i64 t1189) := (blk_cell BK1194.out 0).trans rfl
                      have hcz173_1 : wc.cell? ⟨gb1194, 1, none⟩ = some (.slice Ao38 t1190.length co38) := (blk_cell BK1194.out 1).trans rfl
                      have hfz173_0 := blk_frozen BK1194.out 0
                      have hfz173_1 := blk_frozen BK1194.out 1
                      go_wp2_with (first | ((with_reducible refine gate_callee (f := 25) rfl ?_); refine goesL_ (some 64) rfl rfl Try.func25 (by kernel_rfl) rfl #[.agg #[.int .i64 t1189, .slice Ao38 t1190.length co38], .int .i64 1] rfl (by (try simp only [List.map_toArray, List.map_cons, List.map_nil]); first | done | rfl | (simp only [List.length_drop, List.length_take]; rfl)) ?_; (with_reducible refine (laws_markSpace.calls kj61 t1189 (fun k_ => some k_ = (.slice Ao38 t1190.length co38 : Value).ownBlock) (.slice Ao38 t1190.length co38) t1190 1 t1203 t1204 w _ ?side1 ?side2 A92.out).mono ?_); (case side1 => repeat (first | (with_reducible first | exact HB.out | apply below_alloc | apply pw_below_drewN | apply below_drew1 | refine below_set ?_ GE1174.out | refine below_set ?_ GE1184.out | refine below_set ?_ GE1188.out | refine below_set ?_ GE1194.out) | exact HB.out)); (case side2 => exact Kd.R_tight rfl HO_1195001.out); rintro e w174 ⟨rfl, hy0, hb, hkp⟩; refine ⟨_, rfl, ?_⟩; have n0_ := Aside0.mk (Kd.R_mono (ok' := fun k_ => some k_ ≠ (.slice Ao26 t1201.length co26 : Value).ownBlock ∧ some k_ ≠ (.slice Ao38 t1190.length co38 : Value).ownBlock) (Kd.R_keptB (HO_1185001.out) hkp (fun k_ hk_ hs_ => (hk_.2) hs_)) (fun k_ hk_ => ⟨hk_.1.1, hk_.1.2⟩)); have n1_ := Aside0.mk (Kd.R_mono (ok' := fun k_ => some k_ ≠ (.slice Ao22 t1180.length co22 : Value).ownBlock ∧ some k_ ≠ (.slice Ao38 t1190.length co38 : Value).ownBlock) (Kd.R_keptB (HO_1189000.out) hkp (fun k_ hk_ hs_ => (hk_.2) hs_)) (fun k_ hk_ => ⟨hk_.1.1, hk_.1.2⟩)); have n2_ := Aside0.mk (Kd.R_reok rfl hy0 (fun k_ e_ => HO_1195001.out.1 k_ e_)); have n3_ := Aside0.mk (blk_kept (by (with_reducible repeat (first | refine blk_drewN ?_ _ | refine blk_drew ?_ | refine blk_alloc ?_ _)); exact BK1174.out) hkp (fun hs_ => (fun e_ => (Kd.R_ne HO_1195001.out BK1174.out (by decide)) e_) hs_)); have n4_ := Aside0.mk (blk_kept (by (with_reducible repeat (first | refine blk_drewN ?_ _ | refine blk_drew ?_ | refine blk_alloc ?_ _)); exact BK1184.out) hkp (fun hs_ => (fun e_ => (Kd.R_ne HO_1195001.out BK1184.out (by decide)) e_) hs_)); have n5_ := Aside0.mk (blk_kept (by (with_reducible repeat (first | refine blk_drewN ?_ _ | refine blk_drew ?_ | refine blk_alloc ?_ _)); exact BK1188.out) hkp (fun hs_ => (fun e_ => (Kd.R_ne HO_1195001.out BK1188.out (by decide)) e_) hs_)); have n6_ := Aside0.mk (blk_kept (by (with_reducible repeat (first | refine blk_drewN ?_ _ | refine blk_drew ?_ | refine blk_alloc ?_ _)); exact BK1194.out) hkp (fun hs_ => (fun e_ => (Kd.R_ne HO_1195001.out BK1194.out (by decide)) e_) hs_)); have n7_ := Aside0.mk (hb); clear HO_1185001; clear HO_1189000; clear HO_1195001; clear BK1174; clear BK1184; clear BK1188; clear BK1194; clear HB; have HO_1185001 := n0_; have HO_1189000 := n1_; have HO_1195001 := n2_; have BK1174 := n3_; have BK1184 := n4_; have BK1188 := n5_; have BK1194 := n6_; have HB := n7_; clear n0_ n1_ n2_ n3_ n4_ n5_ n6_ n7_; (try clear hb); (try clear hkp); (try clear hy0); have hcz175_0 : w174.cell? ⟨gb1194, 0, none⟩ = some (.int .i64 t1189) := (blk_cell BK1194.out 0).trans rfl; have hcz175_1 : w174.cell? ⟨gb1194, 1, none⟩ = some (.slice Ao38 t1190.length co38) := (blk_cell BK1194.out 1).trans rfl; have hfz175_0 := blk_frozen BK1194.out 0; have hfz175_1 := blk_frozen BK1194.out 1) | ((with_reducible refine gate_callee (f := 26) rfl ?_); refine goesL_ (some 67) rfl rfl Try.func26 (by kernel_rfl) rfl #[.agg #[.int .i64 t1189, .slice Ao38 t1204.length co38], .int .i64 1] rfl (by (try simp only [List.map_toArray, List.map_cons, List.map_nil]); first | done | (rw [show t1204.length = t1190.length from (Kd.R_reads' HO_1195001.out).1.symm] <;> rfl) | rfl | (simp only [List.length_drop, List.length_take]; rfl)) ?_; (with_reducible refine (laws_heldSpace.calls kj61 t1189 _ _ t1204 1 t1205 _ ?side1 ?side2 A93.out).mono ?_); (case side1 => repeat (first | exact (Kd.R_reads' HO_1195001.out).2.2 | (with_reducible refine Kd.C_alloc ?_ _) | (with_reducible refine Kd.C_drewN ?_ _) | (with_reducible refine Kd.C_drew ?_))); (case side2 => rw [show t1204.length = t1190.length from (Kd.R_reads' HO_1195001.out).1.symm]; exact (Kd.R_reads' HO_1195001.out).2.1); rintro e w176 ⟨rfl, hb⟩; refine ⟨_, rfl, ?_⟩; have n0_ := Aside0.mk (Kd.R_below (by (with_reducible repeat (first | apply Kd.R_alloc | apply Kd.R_drewN | apply Kd.R_drew)); exact HO_1185001.out) hb); have n1_ := Aside0.mk (Kd.R_below (by (with_reducible repeat (first | apply Kd.R_alloc | apply Kd.R_drewN | apply Kd.R_drew)); exact HO_1189000.out) hb); have n2_ := Aside0.mk (Kd.R_below (by (with_reducible repeat (first | apply Kd.R_alloc | apply Kd.R_drewN | apply Kd.R_drew)); exact HO_1195001.out) hb); have n3_ := Aside0.mk (blk_below (g := gb1174) (o := .cells #[.slice A0_0 l0_0.length c0_0] 55 (0, 0)) (by (with_reducible repeat (first | refine blk_drewN ?_ _ | refine blk_drew ?_ | refine blk_alloc ?_ _)); exact BK1174.out) hb); have n4_ := Aside0.mk (blk_below (g := gb1184) (o := .cells #[.int .i64 t1179, .slice Ao22 t1180.length co22] 28 (0, 0)) (by (with_reducible repeat (first | refine blk_drewN ?_ _ | refine blk_drew ?_ | refine blk_alloc ?_ _)); exact BK1184.out) hb); have n5_ := Aside0.mk (blk_below (g := gb1188) (o := .cells #[.slice Ao26 t1201.length co26] 58 (0, 0)) (by (with_reducible repeat (first | refine blk_drewN ?_ _ | refine blk_drew ?_ | refine blk_alloc ?_ _)); exact BK1188.out) hb); have n6_ := Aside0.mk (blk_below (g := gb1194) (o := .cells #[.int .i64 t1189, .slice Ao38 t1190.length co38] 28 (0, 0)) (by (with_reducible repeat (first | refine blk_drewN ?_ _ | refine blk_drew ?_ | refine blk_alloc ?_ _)); exact BK1194.out) hb); have n7_ := Aside0.mk (below_step (by repeat (first | (with_reducible first | exact HB.out | apply below_alloc | apply pw_below_drewN | apply below_drew1 | refine below_set ?_ GE1174.out | refine below_set ?_ GE1184.out | refine below_set ?_ GE1188.out | refine below_set ?_ GE1194.out) | exact HB.out)) hb); clear HO_1185001; clear HO_1189000; clear HO_1195001; clear BK1174; clear BK1184; clear BK1188; clear BK1194; clear HB; have HO_1185001 := n0_; have HO_1189000 := n1_; have HO_1195001 := n2_; have BK1174 := n3_; have BK1184 := n4_; have BK1188 := n5_; have BK1194 := n6_; have HB := n7_; clear n0_ n1_ n2_ n3_ n4_ n5_ n6_ n7_; (try clear hb); (try clear hb2); (try clear hk); (try clear hi)))
                      go_ret
                      exact ⟨by first | rfl | (simp [errW_none, errW_some] <;> rfl) | (simp [*, errW_none, errW_some] <;> rfl), by repeat (first | (with_reducible first | exact HB.out | apply below_alloc | apply pw_below_drewN | apply below_drew1 | refine below_set ?_ GE1174.out | refine below_set ?_ GE1184.out | refine below_set ?_ GE1188.out | refine below_set ?_ GE1194.out) | exact HB.out)⟩
          · replace c60 := Bool.eq_false_iff.mpr c60
            subst c60
            have H1 : (some false) = some r := by rw [if_neg (show ¬ (false = true) by decide)] at H; exact H
            clear H
            have H := H1
            clear H1
            obtain rfl := Option.some.inj H
            try go_wp2
            have n0_ := Aside0.mk (Kd.R_drew HO_1185001.out)
            have n1_ := Aside0.mk (Kd.R_drew HO_1189000.out)
            have n2_ := Aside0.mk (Kd.R_drew HO_1195001.out)
            have n3_ := Aside0.mk (blk_drew BK1174.out)
            have n4_ := Aside0.mk (blk_drew BK1184.out)
            have n5_ := Aside0.mk (blk_drew BK1188.out)
            have n6_ := Aside0.mk (blk_drew BK1194.out)
            have n7_ := Aside0.mk (below_drew1 HB.out)
            clear HO_1185001
            clear HO_1189000
            clear HO_1195001
            clear BK1174
            clear BK1184
            clear BK1188
            clear BK1194
            clear HB
            have HO_1185001 := n0_
            have HO_1189000 := n1_
            have HO_1195001 := n2_
            have BK1174 := n3_
            have BK1184 := n4_
            have BK1188 := n5_
            have BK1194 := n6_
            have HB := n7_
            clear n0_ n1_ n2_ n3_ n4_ n5_ n6_ n7_
            refine start_ (n := 5) (S := fun w' => w'.cell? ⟨gb1188, 0, none⟩ = some (.slice Ao26 t1185.length co26) ∧ w'.cell? ⟨gb1174, 0, none⟩ = some (.slice A0_0 l0_0.length c0_0)) (ds := []) #[false, false, false, false, false] (by kernel_rfl) rfl rfl ⟨(blk_cell BK1188.out 0).trans rfl, (blk_cell BK1174.out 0).trans rfl⟩ (fun hHeld => ?_)
            generalize wc.drew = w177 at HO_1185001 HO_1189000 HO_1195001 BK1174 BK1184 BK1188 BK1194 HB hHeld ⊢
            refine take_ (i := 0) (N := some 41) (v := ?_) (a' := ?_) #[true, false, false, false, false] rfl rfl (by kernel_rfl) (fun _ _ _ h => h) (Or.inl ⟨by rfl, ?_⟩) hHeld ?_ ?_
            rotate_left
            · rintro w' ⟨s0, s1⟩
              go_simp
              with_reducible rfl
            rotate_left
            · simp only [Act.put, List.setIfInBounds_toArray, List.set_cons_zero, List.set_cons_succ, i64_w, i32_w]
              rfl
            refine take_ (i := 1) (N := some 42) (v := ?_) (a' := ?_) #[true, true, false, false, false] rfl rfl (by kernel_rfl) (fun _ _ _ h => h) (Or.inl ⟨by rfl, ?_⟩) hHeld ?_ ?_
            rotate_left
            · rintro w' ⟨s0, s1⟩
              go_simp
              with_reducible rfl
            rotate_left
            · simp only [Act.put, List.setIfInBounds_toArray, List.set_cons_zero, List.set_cons_succ, i64_w, i32_w]
              rfl
            refine one_ (i := 2) (N := some 43) #[true, true, true, false, false] rfl rfl (by kernel_rfl) (by decide) (fun K hK => ?_)
            refine goes_ Try.func45 (by kernel_rfl) rfl #[.agg #[.slice A0_0 l0_0.length c0_0]] (by rfl) rfl rfl (by (try simp only [List.map_toArray, List.map_cons, List.map_nil]); first | done | rfl | (simp only [List.length_drop, List.length_take]; rfl)) ?_
            with_reducible refine (laws_toNet.calls kj10 _ _ l0_0 t1196 _ ?side1 ?side2 A58.out).mono ?_
            (case side1 => repeat (first | exact (Kd.C_below HR0_0.out HB.out) | (with_reducible refine Kd.C_alloc ?_ _) | (with_reducible refine Kd.C_drewN ?_ _) | (with_reducible refine Kd.C_drew ?_)))
            (case side2 => exact HC0_0.out)
            rintro e w178 ⟨v1197, rfl, ho0, hb⟩
            refine ⟨_, rfl, ?_⟩
            have n0_ := Aside0.mk (Kd.R_elder' (by (with_reducible repeat (first | apply Kd.R_alloc | apply Kd.R_drewN | apply Kd.R_drew)); exact HO_1185001.out) (Kd.R_base ho0) hb)
            have n1_ := Aside0.mk (Kd.R_elder' (by (with_reducible repeat (first | apply Kd.R_alloc | apply Kd.R_drewN | apply Kd.R_drew)); exact HO_1189000.out) (Kd.R_base ho0) hb)
            have n2_ := Aside0.mk (Kd.R_elder' (by (with_reducible repeat (first | apply Kd.R_alloc | apply Kd.R_drewN | apply Kd.R_drew)); exact HO_1195001.out) (Kd.R_base ho0) hb)
            have n3_ := Aside0.mk (Kd.R_lower (Kd.R_new' (Kd.R_new' (Kd.R_new' ho0 (Kd.R_lt (by (with_reducible repeat (first | apply Kd.R_alloc | apply Kd.R_drewN | apply Kd.R_drew)); exact HO_1185001.out))) (Kd.R_lt (by (with_reducible repeat (first | apply Kd.R_alloc | apply Kd.R_drewN | apply Kd.R_drew)); exact HO_1189000.out))) (Kd.R_lt (by (with_reducible repeat (first | apply Kd.R_alloc | apply Kd.R_drewN | apply Kd.R_drew)); exact HO_1195001.out))) (below_size (by repeat (first | (with_reducible first | exact HB.out | apply below_alloc | apply pw_below_drewN | apply below_drew1 | refine below_set ?_ GE1174.out | refine below_set ?_ GE1184.out | refine below_set ?_ GE1188.out | refine below_set ?_ GE1194.out) | exact HB.out))))
            have n4_ := Aside0.mk (blk_below (g := gb1174) (o := .cells #[.slice A0_0 l0_0.length c0_0] 55 (0, 0)) (by (with_reducible repeat (first | refine blk_drewN ?_ _ | refine blk_drew ?_ | refine blk_alloc ?_ _)); exact BK1174.out) hb)
            have n5_ := Aside0.mk (blk_below (g := gb1184) (o := .cells #[.int .i64 t1179, .slice Ao22 t1180.length co22] 28 (0, 0)) (by (with_reducible repeat (first | refine blk_drewN ?_ _ | refine blk_drew ?_ | refine blk_alloc ?_ _)); exact BK1184.out) hb)
            have n6_ := Aside0.mk (blk_below (g := gb1188) (o := .cells #[.slice Ao26 t1185.length co26] 58 (0, 0)) (by (with_reducible repeat (first | refine blk_drewN ?_ _ | refine blk_drew ?_ | refine blk_alloc ?_ _)); exact BK1188.out) hb)
            have n7_ := Aside0.mk (blk_below (g := gb1194) (o := .cells #[.int .i64 t1189, .slice Ao38 t1190.length co38] 28 (0, 0)) (by (with_reducible repeat (first | refine blk_drewN ?_ _ | refine blk_drew ?_ | refine blk_alloc ?_ _)); exact BK1194.out) hb)
            have n8_ := Aside0.mk (below_step (by repeat (first | (with_reducible first | exact HB.out | apply below_alloc | apply pw_below_drewN | apply below_drew1 | refine below_set ?_ GE1174.out | refine below_set ?_ GE1184.out | refine below_set ?_ GE1188.out | refine below_set ?_ GE1194.out) | exact HB.out)) hb)
            clear HO_1185001
            clear HO_1189000
            clear HO_1195001
            clear BK1174
            clear BK1184
            clear BK1188
            clear BK1194
            clear HB
            have HO_1185001 := n0_
            have HO_1189000 := n1_
            have HO_1195001 := n2_
            have HO1198 := n3_
            have BK1174 := n4_
            have BK1184 := n5_
            have BK1188 := n6_
            have BK1194 := n7_
            have HB := n8_
            clear n0_ n1_ n2_ n3_ n4_ n5_ n6_ n7_ n8_
            (try clear hb)
            (try clear hb2)
            (try clear hk)
            (try clear hi)
            (try clear ho0)
            obtain ⟨Ao179, co179, eo179⟩ := Kd.R_slice HO1198.out
            (first | subst eo179 | (injection eo179 with f1_ f2_ f3_; have f4_ := f1_.symm; have f5_ := f3_.symm; clear f1_ f2_ f3_; subst f4_; subst f5_))
            refine hK.out _ _ ⟨(blk_cell BK1188.out 0).trans rfl, (blk_cell BK1174.out 0).trans rfl⟩ (fun hHeld => ?_)
            clear hK K
            refine norm_ (a' := ?_) ?_ ?_
            rotate_left
            · show Act.put _ (some 43) _ = _
              simp only [Act.put, List.setIfInBounds_toArray, List.set_cons_zero, List.set_cons_succ, i64_w, i32_w]
              rfl
            refine one_ (i := 3) (N := some 44) #[true, true, true, true, false] rfl rfl (by kernel_rfl) (by decide) (fun K hK => ?_)
            refine goes_ Try.func47 (by kernel_rfl) rfl #[.agg #[.slice Ao26 t1185.length co26], .agg #[.slice Ao179 t1196.length co179]] (by rfl) rfl rfl (by (try simp only [List.map_toArray, List.map_cons, List.map_nil]); first | done | rfl | (simp only [List.length_drop, List.length_take]; rfl)) ?_
            with_reducible refine (laws_eqNet.calls kj10 _ _ t1185 _ _ t1196 false _ ?side1 ?side2 ?side3 ?side4 A59.out).mono ?_
            (case side1 => repeat (first | exact (Kd.R_reads' HO_1189000.out).2.2 | (with_reducible refine Kd.C_alloc ?_ _) | (with_reducible refine Kd.C_drewN ?_ _) | (with_reducible refine Kd.C_drew ?_)))
            (case side2 => exact (Kd.R_reads' HO_1189000.out).2.1)
            (case side3 => repeat (first | exact (Kd.R_reads' HO1198.out).2.2 | (with_reducible refine Kd.C_alloc ?_ _) | (with_reducible refine Kd.C_drewN ?_ _) | (with_reducible refine Kd.C_drew ?_)))
            (case side4 => exact (Kd.R_reads' HO1198.out).2.1)
            rintro e w180 ⟨rfl, hb⟩
            refine ⟨_, rfl, ?_⟩
            have n0_ := Aside0.mk (Kd.R_below (by (with_reducible repeat (first | apply Kd.R_alloc | apply Kd.R_drewN | apply Kd.R_drew)); exact HO_1185001.out) hb)
            have n1_ := Aside0.mk (Kd.R_below (by (with_reducible repeat (first | apply Kd.R_alloc | apply Kd.R_drewN | apply Kd.R_drew)); exact HO_1189000.out) hb)
            have n2_ := Aside0.mk (Kd.R_below (by (with_reducible repeat (first | apply Kd.R_alloc | apply Kd.R_drewN | apply Kd.R_drew)); exact HO_1195001.out) hb)
            have n3_ := Aside0.mk (Kd.R_below (by (with_reducible repeat (first | apply Kd.R_alloc | apply Kd.R_drewN | apply Kd.R_drew)); exact HO1198.out) hb)
            have n4_ := Aside0.mk (blk_below (g := gb1174) (o := .cells #[.slice A0_0 l0_0.length c0_0] 55 (0, 0)) (by (with_reducible repeat (first | refine blk_drewN ?_ _ | refine blk_drew ?_ | refine blk_alloc ?_ _)); exact BK1174.out) hb)
            have n5_ := Aside0.mk (blk_below (g := gb1184) (o := .cells #[.int .i64 t1179, .slice Ao22 t1180.length co22] 28 (0, 0)) (by (with_reducible repeat (first | refine blk_drewN ?_ _ | refine blk_drew ?_ | refine blk_alloc ?_ _)); exact BK1184.out) hb)
            have n6_ := Aside0.mk (blk_below (g := gb1188) (o := .cells #[.slice Ao26 t1185.length co26] 58 (0, 0)) (by (with_reducible repeat (first | refine blk_drewN ?_ _ | refine blk_drew ?_ | refine blk_alloc ?_ _)); exact BK1188.out) hb)
            have n7_ := Aside0.mk (blk_below (g := gb1194) (o := .cells #[.int .i64 t1189, .slice Ao38 t1190.length co38] 28 (0, 0)) (by (with_reducible repeat (first | refine blk_drewN ?_ _ | refine blk_drew ?_ | refine blk_alloc ?_ _)); exact BK1194.out) hb)
            have n8_ := Aside0.mk (below_step (by repeat (first | (with_reducible first | exact HB.out | apply below_alloc | apply pw_below_drewN | apply below_drew1 | refine below_set ?_ GE1174.out | refine below_set ?_ GE1184.out | refine below_set ?_ GE1188.out | refine below_set ?_ GE1194.out) | exact HB.out)) hb)
            clear HO_1185001
            clear HO_1189000
            clear HO_1195001
            clear HO1198
            clear BK1174
            clear BK1184
            clear BK1188
            clear BK1194
            clear HB
            have HO_1185001 := n0_
            have HO_1189000 := n1_
            have HO_1195001 := n2_
            have HO1198 := n3_
            have BK1174 := n4_
            have BK1184 := n5_
            have BK1188 := n6_
            have BK1194 := n7_
            have HB := n8_
            clear n0_ n1_ n2_ n3_ n4_ n5_ n6_ n7_ n8_
            (try clear hb)
            (try clear hb2)
            (try clear hk)
            (try clear hi)
            refine hK.out _ _ ⟨(blk_cell BK1188.out 0).trans rfl, (blk_cell BK1174.out 0).trans rfl⟩ (fun hHeld => ?_)
            clear hK K
            refine norm_ (a' := ?_) ?_ ?_
            rotate_left
            · show Act.put _ (some 44) _ = _
              simp only [Act.put, List.setIfInBounds_toArray, List.set_cons_zero, List.set_cons_succ, i64_w, i32_w]
              rfl
            refine pure_ (i := 4) (N := some 45) (v := ?_) (a' := ?_) #[true, true, true, true, true] rfl rfl (by kernel_rfl) (fun _ _ _ h => h) (Or.inl ⟨by rfl, ?_⟩) ?_ ?_
            rotate_left
            · intro w'
              go_simp
              with_reducible rfl
            rotate_left
            · simp only [Act.put, List.setIfInBounds_toArray, List.set_cons_zero, List.set_cons_succ, i64_w, i32_w]
              rfl
            refine done_ (by kernel_rfl) ?_
            try go_wp2
            go_ret
            exact ⟨by first | rfl | (simp [errW_none, errW_some] <;> rfl) | (simp [*, errW_none, errW_some] <;> rfl), by repeat (first | (with_reducible first | exact HB.out | apply below_alloc | apply pw_below_drewN | apply below_drew1 | refine below_set ?_ GE1174.out | refine below_set ?_ GE1184.out | refine below_set ?_ GE1188.out | refine below_set ?_ GE1194.out) | exact HB.out)⟩

/-- THE ONE PURE STATEMENT of laws_FnExactTreeSpace. -/
def laws_FnExactTreeSpace.Pure : Prop := ∀ (l0_0 : List Int), l0_0.length ≤ maxLen → (∀ x ∈ l0_0, (Lit.int .i64 x).wf = true) → ∃ k, laws_FnExactTreeSpace.f k l0_0 = some true
theorem laws_FnExactTreeSpace.walk (P : laws_FnExactTreeSpace.Pure) (A0_0 : Option Addr) (c0_0 : Nat) (l0_0 : List Int) (w : World) (hr0_0 : Kd.C (Kd.int .i64) w A0_0 l0_0.length l0_0) (hc0_0 : l0_0.length ≤ c0_0) (hm0_0 : l0_0.length ≤ maxLen) (hw0_0 : ∀ x ∈ l0_0, (Lit.int .i64 x).wf = true) :
    Calls Try.prog 13 #[.agg #[.slice A0_0 l0_0.length c0_0]] w fun e w' => e = .returned (.bool true) ∧ Below w.heap.size w w' := by
  obtain ⟨k, h⟩ := P l0_0 hm0_0 hw0_0
  refine (laws_FnExactTreeSpace.calls k A0_0 c0_0 l0_0 true w hr0_0 hc0_0 h).mono ?_
  rintro e w' ⟨rfl, hd⟩
  exact ⟨rfl, hd⟩

end Go.Proofs.Ytnpfkbfmipnofaa.P
