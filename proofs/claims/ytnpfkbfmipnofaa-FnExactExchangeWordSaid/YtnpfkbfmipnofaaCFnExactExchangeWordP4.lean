/- Functions of the program as plain Lean functions, each with a proof that the Go code computes it; written by a program of this session. Conditions: as each theorem states. -/
import Derived.Test.YtnpfkbfmipnofaaCFnExactExchangeWordP3
namespace Go.Proofs.Ytnpfkbfmipnofaa.P
open Go.RowKit Go.Proofs.YtnpfkbfmipnofaaW.PrintWords Go.Proofs.YtnpfkbfmipnofaaW.PrintLast Go.Proofs.YtnpfkbfmipnofaaW.PrintMore
attribute [local go_sem] max2_int min2_int max_two min_two max_three min_three max_four min_four   -- for this text's walks alone
set_option linter.unusedVariables false
set_option linter.unusedSimpArgs false

/-! ### laws_FnExactExchangeWord: function 11 -/
mutual
def laws_FnExactExchangeWord.j0 : Nat → List Int → List Int → List Int → Bool → List Int → List Int → List Int → Bool → Bool → Int → List Int → Int → List Int → Option (Bool)
  | 0, _, _, _, _, _, _, _, _, _, _, _, _, _ => none
  | k + 1, x1, x2, x8, x9, x11, x12, x13, x14, x62, x949000, x949001, x969000, x969001 => if x62 = true then (some false) else ((laws_toSpace.f k x949000 x949001).bind fun bt980 => ((laws_eqSpace.f k x969000 x969001 bt980.1 bt980.2).bind fun t984 => (if t984 = true then ((laws_toIntS.f k x1).bind fun t985 => ((laws_eqIntS.f k x11 t985).bind fun t988 => (if t988 = true then ((laws_toIntS.f k x2).bind fun t989 => ((laws_eqIntS.f k x12 t989).bind fun t992 => (if t992 = true then ((laws_markSpace.f k x969000 x969001 1).bind fun bt993 => ((laws_markIntS.f k x11 bt993.1).bind fun bt995 => ((laws_markIntS.f k x12 bt995.1).bind fun bt997 => (if bt997.1 < 0 then (laws_FnExactExchangeWord.j1 k x1 x2 x8 x9 x13 true x949000 x949001) else ((laws_eqIntS.f k x13 x8).bind fun t999 => (if t999 = true then (laws_FnExactExchangeWord.j1 k x1 x2 x8 x9 x13 (x14 != x9) x949000 x949001) else (laws_FnExactExchangeWord.j1 k x1 x2 x8 x9 x13 true x949000 x949001))))))) else (some false)))) else (some false)))) else (some false))))
def laws_FnExactExchangeWord.j1 : Nat → List Int → List Int → List Int → Bool → List Int → Bool → Int → List Int → Option (Bool)
  | 0, _, _, _, _, _, _, _, _ => none
  | k + 1, x1, x2, x8, x9, x13, x99, x949000, x949001 => if x99 = true then (some false) else ((laws_markIntS.f k x13 1).bind fun bt1000 => ((laws_heldIntS.f k bt1000.2 1).bind fun t1002 => (if t1002 < 0 then (some false) else (if t1002 = bt1000.1 then ((laws_toSpace.f k x949000 x949001).bind fun bt1003 => ((laws_toIntS.f k x1).bind fun t1007 => ((laws_toIntS.f k x2).bind fun t1010 => ((impl_ExchangeWord.f k bt1003.1 bt1003.2 t1007 t1010).bind fun bt1013 => ((laws_eqIntS.f k bt1013.1 x8).bind fun t1017 => (if t1017 = true then (laws_FnExactExchangeWord.j2 k bt1000.2 bt1000.1 (bt1013.2 != x9)) else (laws_FnExactExchangeWord.j2 k bt1000.2 bt1000.1 true))))))) else (some false)))))
def laws_FnExactExchangeWord.j2 : Nat → List Int → Int → Bool → Option (Bool)
  | 0, _, _, _ => none
  | k + 1, x13, x16, x129 => if x129 = true then (some false) else ((laws_heldIntS.f k x13 1).bind fun t1018 => (if t1018 < 0 then (some false) else (if t1018 = x16 then (some true) else (some false))))
end
def laws_FnExactExchangeWord.f (k : Nat) (a0_0 : Int) (l0_1 : List Int) (l1 : List Int) (l2 : List Int) : Option (Bool) := if (l1.length : Int) > 1048576 then (some true) else (if (l2.length : Int) > 1048576 then (some true) else ((laws_szSpace.f a0_0 l0_1 1048576).bind fun t949 => (if t949 < 0 then (some true) else ((laws_toSpace.f k a0_0 l0_1).bind fun bt950 => ((laws_toIntS.f k l1).bind fun t954 => ((laws_toIntS.f k l2).bind fun t957 => ((spec_ExchangeWord.f k bt950.1 bt950.2 t954 t957).bind fun bt960 => ((laws_toSpace.f k a0_0 l0_1).bind fun bt964 => ((laws_toIntS.f k l1).bind fun t969 => ((laws_toIntS.f k l2).bind fun t972 => ((impl_ExchangeWord.f k bt964.1 bt964.2 t969 t972).bind fun bt975 => ((laws_eqIntS.f k bt975.1 bt960.1).bind fun t979 => (if t979 = true then (laws_FnExactExchangeWord.j0 k l1 l2 bt960.1 bt960.2 t969 t972 bt975.1 bt975.2 (bt975.2 != bt960.2) a0_0 l0_1 bt964.1 bt964.2) else (laws_FnExactExchangeWord.j0 k l1 l2 bt960.1 bt960.2 t969 t972 bt975.1 bt975.2 true a0_0 l0_1 bt964.1 bt964.2))))))))))))))
theorem laws_FnExactExchangeWord.mono_l : ∀ k, (∀ y0 y1 y2 y3 y4 y5 y6 y7 y8 y9 y10 y11 y12, LeO (laws_FnExactExchangeWord.j0 k y0 y1 y2 y3 y4 y5 y6 y7 y8 y9 y10 y11 y12) (laws_FnExactExchangeWord.j0 (k + 1) y0 y1 y2 y3 y4 y5 y6 y7 y8 y9 y10 y11 y12)) ∧ (∀ y0 y1 y2 y3 y4 y5 y6 y7, LeO (laws_FnExactExchangeWord.j1 k y0 y1 y2 y3 y4 y5 y6 y7) (laws_FnExactExchangeWord.j1 (k + 1) y0 y1 y2 y3 y4 y5 y6 y7)) ∧ (∀ y0 y1 y2, LeO (laws_FnExactExchangeWord.j2 k y0 y1 y2) (laws_FnExactExchangeWord.j2 (k + 1) y0 y1 y2))
  | 0 => ⟨fun _ _ _ _ _ _ _ _ _ _ _ _ _ r h => by simp [laws_FnExactExchangeWord.j0] at h, fun _ _ _ _ _ _ _ _ r h => by simp [laws_FnExactExchangeWord.j1] at h, fun _ _ _ r h => by simp [laws_FnExactExchangeWord.j2] at h⟩
  | k + 1 => by
    obtain ⟨ih0, ih1, ih2⟩ := laws_FnExactExchangeWord.mono_l k
    refine ⟨?_, ?_, ?_⟩
    · intro y0 y1 y2 y3 y4 y5 y6 y7 y8 y9 y10 y11 y12
      unfold laws_FnExactExchangeWord.j0
      repeat' first
      | (with_reducible exact ih0 _ _ _ _ _ _ _ _ _ _ _ _ _)
      | (with_reducible exact ih1 _ _ _ _ _ _ _ _)
      | (with_reducible exact ih2 _ _ _)
      | (with_reducible exact impl_ExchangeWord.mono _ _ _ _ _)
      | (with_reducible exact laws_eqIntS.mono _ _ _)
      | (with_reducible exact laws_eqSpace.mono _ _ _ _ _)
      | (with_reducible exact laws_heldIntS.mono _ _ _)
      | (with_reducible exact laws_markIntS.mono _ _ _)
      | (with_reducible exact laws_markSpace.mono _ _ _ _)
      | (with_reducible exact laws_toIntS.mono _ _)
      | (with_reducible exact laws_toSpace.mono _ _ _)
      | (with_reducible exact spec_ExchangeWord.mono _ _ _ _ _)
      | (with_reducible exact LeO.refl _)
      | (with_reducible exact LeO.none _)
      | (with_reducible refine LeO.ite ?_ ?_)
      | (with_reducible refine LeO.bind ?_ (fun _ => ?_))
      | exact ih0 _ _ _ _ _ _ _ _ _ _ _ _ _
      | exact ih1 _ _ _ _ _ _ _ _
      | exact ih2 _ _ _
      | exact impl_ExchangeWord.mono _ _ _ _ _
      | exact laws_eqIntS.mono _ _ _
      | exact laws_eqSpace.mono _ _ _ _ _
      | exact laws_heldIntS.mono _ _ _
      | exact laws_markIntS.mono _ _ _
      | exact laws_markSpace.mono _ _ _ _
      | exact laws_toIntS.mono _ _
      | exact laws_toSpace.mono _ _ _
      | exact spec_ExchangeWord.mono _ _ _ _ _
      | exact LeO.none _
      | refine LeO.ite ?_ ?_
      | refine LeO.bind ?_ (fun _ => ?_)
    · intro y0 y1 y2 y3 y4 y5 y6 y7
      unfold laws_FnExactExchangeWord.j1
      repeat' first
      | (with_reducible exact ih0 _ _ _ _ _ _ _ _ _ _ _ _ _)
      | (with_reducible exact ih1 _ _ _ _ _ _ _ _)
      | (with_reducible exact ih2 _ _ _)
      | (with_reducible exact impl_ExchangeWord.mono _ _ _ _ _)
      | (with_reducible exact laws_eqIntS.mono _ _ _)
      | (with_reducible exact laws_eqSpace.mono _ _ _ _ _)
      | (with_reducible exact laws_heldIntS.mono _ _ _)
      | (with_reducible exact laws_markIntS.mono _ _ _)
      | (with_reducible exact laws_markSpace.mono _ _ _ _)
      | (with_reducible exact laws_toIntS.mono _ _)
      | (with_reducible exact laws_toSpace.mono _ _ _)
      | (with_reducible exact spec_ExchangeWord.mono _ _ _ _ _)
      | (with_reducible exact LeO.refl _)
      | (with_reducible exact LeO.none _)
      | (with_reducible refine LeO.ite ?_ ?_)
      | (with_reducible refine LeO.bind ?_ (fun _ => ?_))
      | exact ih0 _ _ _ _ _ _ _ _ _ _ _ _ _
      | exact ih1 _ _ _ _ _ _ _ _
      | exact ih2 _ _ _
      | exact impl_ExchangeWord.mono _ _ _ _ _
      | exact laws_eqIntS.mono _ _ _
      | exact laws_eqSpace.mono _ _ _ _ _
      | exact laws_heldIntS.mono _ _ _
      | exact laws_markIntS.mono _ _ _
      | exact laws_markSpace.mono _ _ _ _
      | exact laws_toIntS.mono _ _
      | exact laws_toSpace.mono _ _ _
      | exact spec_ExchangeWord.mono _ _ _ _ _
      | exact LeO.none _
      | refine LeO.ite ?_ ?_
      | refine LeO.bind ?_ (fun _ => ?_)
    · intro y0 y1 y2
      unfold laws_FnExactExchangeWord.j2
      repeat' first
      | (with_reducible exact ih0 _ _ _ _ _ _ _ _ _ _ _ _ _)
      | (with_reducible exact ih1 _ _ _ _ _ _ _ _)
      | (with_reducible exact ih2 _ _ _)
      | (with_reducible exact impl_ExchangeWord.mono _ _ _ _ _)
      | (with_reducible exact laws_eqIntS.mono _ _ _)
      | (with_reducible exact laws_eqSpace.mono _ _ _ _ _)
      | (with_reducible exact laws_heldIntS.mono _ _ _)
      | (with_reducible exact laws_markIntS.mono _ _ _)
      | (with_reducible exact laws_markSpace.mono _ _ _ _)
      | (with_reducible exact laws_toIntS.mono _ _)
      | (with_reducible exact laws_toSpace.mono _ _ _)
      | (with_reducible exact spec_ExchangeWord.mono _ _ _ _ _)
      | (with_reducible exact LeO.refl _)
      | (with_reducible exact LeO.none _)
      | (with_reducible refine LeO.ite ?_ ?_)
      | (with_reducible refine LeO.bind ?_ (fun _ => ?_))
      | exact ih0 _ _ _ _ _ _ _ _ _ _ _ _ _
      | exact ih1 _ _ _ _ _ _ _ _
      | exact ih2 _ _ _
      | exact impl_ExchangeWord.mono _ _ _ _ _
      | exact laws_eqIntS.mono _ _ _
      | exact laws_eqSpace.mono _ _ _ _ _
      | exact laws_heldIntS.mono _ _ _
      | exact laws_markIntS.mono _ _ _
      | exact laws_markSpace.mono _ _ _ _
      | exact laws_toIntS.mono _ _
      | exact laws_toSpace.mono _ _ _
      | exact spec_ExchangeWord.mono _ _ _ _ _
      | exact LeO.none _
      | refine LeO.ite ?_ ?_
      | refine LeO.bind ?_ (fun _ => ?_)
theorem laws_FnExactExchangeWord.mono : ∀ a0 a1 a2 a3 k, LeO (laws_FnExactExchangeWord.f k a0 a1 a2 a3) (laws_FnExactExchangeWord.f (k + 1) a0 a1 a2 a3) := by
  intro a0 a1 a2 a3 k
  obtain ⟨ih0, ih1, ih2⟩ := laws_FnExactExchangeWord.mono_l k
  unfold laws_FnExactExchangeWord.f
  repeat' first
      | (with_reducible exact ih0 _ _ _ _ _ _ _ _ _ _ _ _ _)
      | (with_reducible exact ih1 _ _ _ _ _ _ _ _)
      | (with_reducible exact ih2 _ _ _)
      | (with_reducible exact impl_ExchangeWord.mono _ _ _ _ _)
      | (with_reducible exact laws_eqIntS.mono _ _ _)
      | (with_reducible exact laws_eqSpace.mono _ _ _ _ _)
      | (with_reducible exact laws_heldIntS.mono _ _ _)
      | (with_reducible exact laws_markIntS.mono _ _ _)
      | (with_reducible exact laws_markSpace.mono _ _ _ _)
      | (with_reducible exact laws_toIntS.mono _ _)
      | (with_reducible exact laws_toSpace.mono _ _ _)
      | (with_reducible exact spec_ExchangeWord.mono _ _ _ _ _)
      | (with_reducible exact LeO.refl _)
      | (with_reducible exact LeO.none _)
      | (with_reducible refine LeO.ite ?_ ?_)
      | (with_reducible refine LeO.bind ?_ (fun _ => ?_))
      | exact ih0 _ _ _ _ _ _ _ _ _ _ _ _ _
      | exact ih1 _ _ _ _ _ _ _ _
      | exact ih2 _ _ _
      | exact impl_ExchangeWord.mono _ _ _ _ _
      | exact laws_eqIntS.mono _ _ _
      | exact laws_eqSpace.mono _ _ _ _ _
      | exact laws_heldIntS.mono _ _ _
      | exact laws_markIntS.mono _ _ _
      | exact laws_markSpace.mono _ _ _ _
      | exact laws_toIntS.mono _ _
      | exact laws_toSpace.mono _ _ _
      | exact spec_ExchangeWord.mono _ _ _ _ _
      | exact LeO.none _
      | refine LeO.ite ?_ ?_
      | refine LeO.bind ?_ (fun _ => ?_)
set_option maxHeartbeats 8000000 in
set_option maxRecDepth 100000 in
theorem laws_FnExactExchangeWord.calls (k : Nat) (a0_0 : Int) (A0_1 : Option Addr) (c0_1 : Nat) (l0_1 : List Int) (A1 : Option Addr) (c1 : Nat) (l1 : List Int) (A2 : Option Addr) (c2 : Nat) (l2 : List Int) (r : Bool) (w : World) (hr0_1 : Kd.C (Kd.int .i64) w A0_1 l0_1.length l0_1) (hc0_1 : l0_1.length ≤ c0_1) (hr1 : Kd.C (Kd.int .i64) w A1 l1.length l1) (hc1 : l1.length ≤ c1) (hr2 : Kd.C (Kd.int .i64) w A2 l2.length l2) (hc2 : l2.length ≤ c2) (h : laws_FnExactExchangeWord.f k a0_0 l0_1 l1 l2 = some r) :
    Calls Try.prog 11 #[.agg #[.int .i64 a0_0, .slice A0_1 l0_1.length c0_1], .slice A1 l1.length c1, .slice A2 l2.length c2] w fun e w' => e = .returned (.bool r) ∧ Below w.heap.size w w' := by
  have hu24 := Try.underlying24
  have hu28 := Try.underlying28
  have HR0_1 := Aside0.mk hr0_1
  have HC0_1 := Aside0.mk hc0_1
  clear hr0_1 hc0_1
  have HR1 := Aside0.mk hr1
  have HC1 := Aside0.mk hc1
  clear hr1 hc1
  have HR2 := Aside0.mk hr2
  have HC2 := Aside0.mk hc2
  clear hr2 hc2
  have HB := Aside0.mk (Below.refl w.heap.size w)
  have H : (if (l1.length : Int) > 1048576 then (some true) else (if (l2.length : Int) > 1048576 then (some true) else ((laws_szSpace.f a0_0 l0_1 1048576).bind fun t949 => (if t949 < 0 then (some true) else ((laws_toSpace.f k a0_0 l0_1).bind fun bt950 => ((laws_toIntS.f k l1).bind fun t954 => ((laws_toIntS.f k l2).bind fun t957 => ((spec_ExchangeWord.f k bt950.1 bt950.2 t954 t957).bind fun bt960 => ((laws_toSpace.f k a0_0 l0_1).bind fun bt964 => ((laws_toIntS.f k l1).bind fun t969 => ((laws_toIntS.f k l2).bind fun t972 => ((impl_ExchangeWord.f k bt964.1 bt964.2 t969 t972).bind fun bt975 => ((laws_eqIntS.f k bt975.1 bt960.1).bind fun t979 => (if t979 = true then (laws_FnExactExchangeWord.j0 k l1 l2 bt960.1 bt960.2 t969 t972 bt975.1 bt975.2 (bt975.2 != bt960.2) a0_0 l0_1 bt964.1 bt964.2) else (laws_FnExactExchangeWord.j0 k l1 l2 bt960.1 bt960.2 t969 t972 bt975.1 bt975.2 true a0_0 l0_1 bt964.1 bt964.2))))))))))))))) = some r := h
  clear h
  by_cases c4 : (l1.length : Int) > 1048576
  · rw [if_pos c4] at H
    have c4b0 : decide (1048576 < (l1.length : Int)) = true := decide_eq_true c4
    have c4b1 : decide (1048576 < l1.length) = true := decide_eq_true (by omega)
    clear c4
    obtain rfl := Option.some.inj H
    go_enter Try.func11, Try.ntmps11
    go_wp2_with (first | ((with_reducible refine gate_dst (N := 3) rfl ?_); refine box_event ?hg (N := 3) ?hd (cs := #[.int .i64 a0_0, .slice A0_1 l0_1.length c0_1]) (t := 24) ?hr ?_; (case hd => rfl); (case hg => rfl); (case hr => first | (go_simp; done) | (go_simp; rfl)); intro gb948 hg w5 hbox hb; have n0_ := Aside0.mk (below_step (by repeat (first | (with_reducible first | exact HB.out | apply below_alloc | apply pw_below_drewN | apply below_drew1) | exact HB.out)) hb); have n1_ := Aside0.mk (hbox); have n2_ := Aside0.mk ((by rw [hg]; exact (below_size (by repeat (first | (with_reducible first | exact HB.out | apply below_alloc | apply pw_below_drewN | apply below_drew1) | exact HB.out))) : w.heap.size ≤ gb948)); have n3_ := Aside0.mk ((by rw [hg]; exact (below_size (by repeat (first | (with_reducible first | exact HB.out | apply below_alloc | apply pw_below_drewN | apply below_drew1) | exact HB.out))) : w.heap.size ≤ gb948)); clear HB; have HB := n0_; have BK948 := n1_; have GW948 := n2_; have GE948 := n3_; clear n0_ n1_ n2_ n3_; clear hb hbox hg))
    go_ret
    exact ⟨by first | rfl | (simp [errW_none, errW_some] <;> rfl) | (simp [*, errW_none, errW_some] <;> rfl), by repeat (first | (with_reducible first | exact HB.out | apply below_alloc | apply pw_below_drewN | apply below_drew1 | refine below_set ?_ GE948.out) | exact HB.out)⟩
  · rw [if_neg c4] at H
    have c4b0 : decide (1048576 < (l1.length : Int)) = false := decide_eq_false c4
    have c4b1 : decide (1048576 < l1.length) = false := decide_eq_false (by omega)
    clear c4
    by_cases c6 : (l2.length : Int) > 1048576
    · rw [if_pos c6] at H
      have c6b0 : decide (1048576 < (l2.length : Int)) = true := decide_eq_true c6
      have c6b1 : decide (1048576 < l2.length) = true := decide_eq_true (by omega)
      clear c6
      obtain rfl := Option.some.inj H
      go_enter Try.func11, Try.ntmps11
      go_wp2_with (first | ((with_reducible refine gate_dst (N := 3) rfl ?_); refine box_event ?hg (N := 3) ?hd (cs := #[.int .i64 a0_0, .slice A0_1 l0_1.length c0_1]) (t := 24) ?hr ?_; (case hd => rfl); (case hg => rfl); (case hr => first | (go_simp; done) | (go_simp; rfl)); intro gb948 hg w7 hbox hb; have n0_ := Aside0.mk (below_step (by repeat (first | (with_reducible first | exact HB.out | apply below_alloc | apply pw_below_drewN | apply below_drew1) | exact HB.out)) hb); have n1_ := Aside0.mk (hbox); have n2_ := Aside0.mk ((by rw [hg]; exact (below_size (by repeat (first | (with_reducible first | exact HB.out | apply below_alloc | apply pw_below_drewN | apply below_drew1) | exact HB.out))) : w.heap.size ≤ gb948)); have n3_ := Aside0.mk ((by rw [hg]; exact (below_size (by repeat (first | (with_reducible first | exact HB.out | apply below_alloc | apply pw_below_drewN | apply below_drew1) | exact HB.out))) : w.heap.size ≤ gb948)); clear HB; have HB := n0_; have BK948 := n1_; have GW948 := n2_; have GE948 := n3_; clear n0_ n1_ n2_ n3_; clear hb hbox hg))
      go_ret
      exact ⟨by first | rfl | (simp [errW_none, errW_some] <;> rfl) | (simp [*, errW_none, errW_some] <;> rfl), by repeat (first | (with_reducible first | exact HB.out | apply below_alloc | apply pw_below_drewN | apply below_drew1 | refine below_set ?_ GE948.out) | exact HB.out)⟩
    · rw [if_neg c6] at H
      have c6b0 : decide (1048576 < (l2.length : Int)) = false := decide_eq_false c6
      have c6b1 : decide (1048576 < l2.length) = false := decide_eq_false (by omega)
      clear c6
      replace H := Option.bind_eq_some_iff.mp H
      obtain ⟨t949, A80, H⟩ := H
      replace H : (if t949 < 0 then (some true) else ((laws_toSpace.f k a0_0 l0_1).bind fun bt950 => ((laws_toIntS.f k l1).bind fun t954 => ((laws_toIntS.f k l2).bind fun t957 => ((spec_ExchangeWord.f k bt950.1 bt950.2 t954 t957).bind fun bt960 => ((laws_toSpace.f k a0_0 l0_1).bind fun bt964 => ((laws_toIntS.f k l1).bind fun t969 => ((laws_toIntS.f k l2).bind fun t972 => ((impl_ExchangeWord.f k bt964.1 bt964.2 t969 t972).bind fun bt975 => ((laws_eqIntS.f k bt975.1 bt960.1).bind fun t979 => (if t979 = true then (laws_FnExactExchangeWord.j0 k l1 l2 bt960.1 bt960.2 t969 t972 bt975.1 bt975.2 (bt975.2 != bt960.2) a0_0 l0_1 bt964.1 bt964.2) else (laws_FnExactExchangeWord.j0 k l1 l2 bt960.1 bt960.2 t969 t972 bt975.1 bt975.2 true a0_0 l0_1 bt964.1 bt964.2)))))))))))) = some r := H
      have A8 := Aside0.mk A80
      clear A80
      by_cases c9 : t949 < 0
      · rw [if_pos c9] at H
        have c9b0 : decide (t949 < 0) = true := decide_eq_true c9
        clear c9
        obtain rfl := Option.some.inj H
        go_enter Try.func11, Try.ntmps11
        go_wp2_with (first | ((with_reducible refine gate_dst (N := 3) rfl ?_); refine box_event ?hg (N := 3) ?hd (cs := #[.int .i64 a0_0, .slice A0_1 l0_1.length c0_1]) (t := 24) ?hr ?_; (case hd => rfl); (case hg => rfl); (case hr => first | (go_simp; done) | (go_simp; rfl)); intro gb948 hg w10 hbox hb; have n0_ := Aside0.mk (below_step (by repeat (first | (with_reducible first | exact HB.out | apply below_alloc | apply pw_below_drewN | apply below_drew1) | exact HB.out)) hb); have n1_ := Aside0.mk (hbox); have n2_ := Aside0.mk ((by rw [hg]; exact (below_size (by repeat (first | (with_reducible first | exact HB.out | apply below_alloc | apply pw_below_drewN | apply below_drew1) | exact HB.out))) : w.heap.size ≤ gb948)); have n3_ := Aside0.mk ((by rw [hg]; exact (below_size (by repeat (first | (with_reducible first | exact HB.out | apply below_alloc | apply pw_below_drewN | apply below_drew1) | exact HB.out))) : w.heap.size ≤ gb948)); clear HB; have HB := n0_; have BK948 := n1_; have GW948 := n2_; have GE948 := n3_; clear n0_ n1_ n2_ n3_; clear hb hbox hg; have hcz11_0 : w10.cell? ⟨gb948, 0, none⟩ = some (.int .i64 a0_0) := (blk_cell BK948.out 0).trans rfl; have hcz11_1 : w10.cell? ⟨gb948, 1, none⟩ = some (.slice A0_1 l0_1.length c0_1) := (blk_cell BK948.out 1).trans rfl; have hfz11_0 := blk_frozen BK948.out 0; have hfz11_1 := blk_frozen BK948.out 1) | ((with_reducible refine gate_callee (f := 15) rfl ?_); refine goesL_ (some 28) rfl rfl Try.func15 (by kernel_rfl) rfl #[.agg #[.int .i64 a0_0, .slice A0_1 l0_1.length c0_1], .int .i64 1048576] rfl (by (try simp only [List.map_toArray, List.map_cons, List.map_nil]); first | done | rfl | (simp only [List.length_drop, List.length_take]; rfl)) ?_; (with_reducible refine (laws_szSpace.calls a0_0 _ _ l0_1 1048576 t949 _ ?side1 ?side2 A8.out).mono ?_); (case side1 => repeat (first | exact (Kd.C_below HR0_1.out HB.out) | (with_reducible refine Kd.C_alloc ?_ _) | (with_reducible refine Kd.C_drewN ?_ _) | (with_reducible refine Kd.C_drew ?_))); (case side2 => exact HC0_1.out); rintro e w12 ⟨rfl, hb⟩; refine ⟨_, rfl, ?_⟩; have n0_ := Aside0.mk (blk_below (g := gb948) (o := .cells #[.int .i64 a0_0, .slice A0_1 l0_1.length c0_1] 24 (0, 0)) (by (with_reducible repeat (first | refine blk_drewN ?_ _ | refine blk_drew ?_ | refine blk_alloc ?_ _)); exact BK948.out) hb); have n1_ := Aside0.mk (below_step (by repeat (first | (with_reducible first | exact HB.out | apply below_alloc | apply pw_below_drewN | apply below_drew1 | refine below_set ?_ GE948.out) | exact HB.out)) hb); clear BK948; clear HB; have BK948 := n0_; have HB := n1_; clear n0_ n1_; (try clear hb); (try clear hb2); (try clear hk); (try clear hi)))
        go_ret
        exact ⟨by first | rfl | (simp [errW_none, errW_some] <;> rfl) | (simp [*, errW_none, errW_some] <;> rfl), by repeat (first | (with_reducible first | exact HB.out | apply below_alloc | apply pw_below_drewN | apply below_drew1 | refine below_set ?_ GE948.out) | exact HB.out)⟩
      · rw [if_neg c9] at H
        have c9b0 : decide (t949 < 0) = false := decide_eq_false c9
        clear c9
        replace H := Option.bind_eq_some_iff.mp H
        obtain ⟨⟨t950, t951⟩, A130, H⟩ := H
        replace H : ((laws_toIntS.f k l1).bind fun t954 => ((laws_toIntS.f k l2).bind fun t957 => ((spec_ExchangeWord.f k t950 t951 t954 t957).bind fun bt960 => ((laws_toSpace.f k a0_0 l0_1).bind fun bt964 => ((laws_toIntS.f k l1).bind fun t969 => ((laws_toIntS.f k l2).bind fun t972 => ((impl_ExchangeWord.f k bt964.1 bt964.2 t969 t972).bind fun bt975 => ((laws_eqIntS.f k bt975.1 bt960.1).bind fun t979 => (if t979 = true then (laws_FnExactExchangeWord.j0 k l1 l2 bt960.1 bt960.2 t969 t972 bt975.1 bt975.2 (bt975.2 != bt960.2) a0_0 l0_1 bt964.1 bt964.2) else (laws_FnExactExchangeWord.j0 k l1 l2 bt960.1 bt960.2 t969 t972 bt975.1 bt975.2 true a0_0 l0_1 bt964.1 bt964.2)))))))))) = some r := H
        have A13 := Aside0.mk A130
        clear A130
        replace H := Option.bind_eq_some_iff.mp H
        obtain ⟨t954, A140, H⟩ := H
        replace H : ((laws_toIntS.f k l2).bind fun t957 => ((spec_ExchangeWord.f k t950 t951 t954 t957).bind fun bt960 => ((laws_toSpace.f k a0_0 l0_1).bind fun bt964 => ((laws_toIntS.f k l1).bind fun t969 => ((laws_toIntS.f k l2).bind fun t972 => ((impl_ExchangeWord.f k bt964.1 bt964.2 t969 t972).bind fun bt975 => ((laws_eqIntS.f k bt975.1 bt960.1).bind fun t979 => (if t979 = true then (laws_FnExactExchangeWord.j0 k l1 l2 bt960.1 bt960.2 t969 t972 bt975.1 bt975.2 (bt975.2 != bt960.2) a0_0 l0_1 bt964.1 bt964.2) else (laws_FnExactExchangeWord.j0 k l1 l2 bt960.1 bt960.2 t969 t972 bt975.1 bt975.2 true a0_0 l0_1 bt964.1 bt964.2))))))))) = some r := H
        have A14 := Aside0.mk A140
        clear A140
        replace H := Option.bind_eq_some_iff.mp H
        obtain ⟨t957, A150, H⟩ := H
        replace H : ((spec_ExchangeWord.f k t950 t951 t954 t957).bind fun bt960 => ((laws_toSpace.f k a0_0 l0_1).bind fun bt964 => ((laws_toIntS.f k l1).bind fun t969 => ((laws_toIntS.f k l2).bind fun t972 => ((impl_ExchangeWord.f k bt964.1 bt964.2 t969 t972).bind fun bt975 => ((laws_eqIntS.f k bt975.1 bt960.1).bind fun t979 => (if t979 = true then (laws_FnExactExchangeWord.j0 k l1 l2 bt960.1 bt960.2 t969 t972 bt975.1 bt975.2 (bt975.2 != bt960.2) a0_0 l0_1 bt964.1 bt964.2) else (laws_FnExactExchangeWord.j0 k l1 l2 bt960.1 bt960.2 t969 t972 bt975.1 bt975.2 true a0_0 l0_1 bt964.1 bt964.2)))))))) = some r := H
        have A15 := Aside0.mk A150
        clear A150
        replace H := Option.bind_eq_some_iff.mp H
        obtain ⟨⟨t960, t963⟩, A160, H⟩ := H
        replace H : ((laws_toSpace.f k a0_0 l0_1).bind fun bt964 => ((laws_toIntS.f k l1).bind fun t969 => ((laws_toIntS.f k l2).bind fun t972 => ((impl_ExchangeWord.f k bt964.1 bt964.2 t969 t972).bind fun bt975 => ((laws_eqIntS.f k bt975.1 t960).bind fun t979 => (if t979 = true then (laws_FnExactExchangeWord.j0 k l1 l2 t960 t963 t969 t972 bt975.1 bt975.2 (bt975.2 != t963) a0_0 l0_1 bt964.1 bt964.2) else (laws_FnExactExchangeWord.j0 k l1 l2 t960 t963 t969 t972 bt975.1 bt975.2 true a0_0 l0_1 bt964.1 bt964.2))))))) = some r := H
        have A16 := Aside0.mk A160
        clear A160
        replace H := Option.bind_eq_some_iff.mp H
        obtain ⟨⟨t964, t965⟩, A170, H⟩ := H
        replace H : ((laws_toIntS.f k l1).bind fun t969 => ((laws_toIntS.f k l2).bind fun t972 => ((impl_ExchangeWord.f k t964 t965 t969 t972).bind fun bt975 => ((laws_eqIntS.f k bt975.1 t960).bind fun t979 => (if t979 = true then (laws_FnExactExchangeWord.j0 k l1 l2 t960 t963 t969 t972 bt975.1 bt975.2 (bt975.2 != t963) a0_0 l0_1 t964 t965) else (laws_FnExactExchangeWord.j0 k l1 l2 t960 t963 t969 t972 bt975.1 bt975.2 true a0_0 l0_1 t964 t965)))))) = some r := H
        have A17 := Aside0.mk A170
        clear A170
        replace H := Option.bind_eq_some_iff.mp H
        obtain ⟨t969, A180, H⟩ := H
        replace H : ((laws_toIntS.f k l2).bind fun t972 => ((impl_ExchangeWord.f k t964 t965 t969 t972).bind fun bt975 => ((laws_eqIntS.f k bt975.1 t960).bind fun t979 => (if t979 = true then (laws_FnExactExchangeWord.j0 k l1 l2 t960 t963 t969 t972 bt975.1 bt975.2 (bt975.2 != t963) a0_0 l0_1 t964 t965) else (laws_FnExactExchangeWord.j0 k l1 l2 t960 t963 t969 t972 bt975.1 bt975.2 true a0_0 l0_1 t964 t965))))) = some r := H
        have A18 := Aside0.mk A180
        clear A180
        replace H := Option.bind_eq_some_iff.mp H
        obtain ⟨t972, A190, H⟩ := H
        replace H : ((impl_ExchangeWord.f k t964 t965 t969 t972).bind fun bt975 => ((laws_eqIntS.f k bt975.1 t960).bind fun t979 => (if t979 = true then (laws_FnExactExchangeWord.j0 k l1 l2 t960 t963 t969 t972 bt975.1 bt975.2 (bt975.2 != t963) a0_0 l0_1 t964 t965) else (laws_FnExactExchangeWord.j0 k l1 l2 t960 t963 t969 t972 bt975.1 bt975.2 true a0_0 l0_1 t964 t965)))) = some r := H
        have A19 := Aside0.mk A190
        clear A190
        replace H := Option.bind_eq_some_iff.mp H
        obtain ⟨⟨t975, t978⟩, A200, H⟩ := H
        replace H : ((laws_eqIntS.f k t975 t960).bind fun t979 => (if t979 = true then (laws_FnExactExchangeWord.j0 k l1 l2 t960 t963 t969 t972 t975 t978 (t978 != t963) a0_0 l0_1 t964 t965) else (laws_FnExactExchangeWord.j0 k l1 l2 t960 t963 t969 t972 t975 t978 true a0_0 l0_1 t964 t965))) = some r := H
        have A20 := Aside0.mk A200
        clear A200
        have HC21 := Aside0.mk H
        clear H
        go_enter Try.func11, Try.ntmps11
        go_upto_region 14 with (first | ((with_reducible refine gate_dst (N := 3) rfl ?_); refine box_event ?hg (N := 3) ?hd (cs := #[.int .i64 a0_0, .slice A0_1 l0_1.length c0_1]) (t := 24) ?hr ?_; (case hd => rfl); (case hg => rfl); (case hr => first | (go_simp; done) | (go_simp; rfl)); intro gb948 hg w22 hbox hb; have n0_ := Aside0.mk (below_step (by repeat (first | (with_reducible first | exact HB.out | apply below_alloc | apply pw_below_drewN | apply below_drew1) | exact HB.out)) hb); have n1_ := Aside0.mk (hbox); have n2_ := Aside0.mk ((by rw [hg]; exact (below_size (by repeat (first | (with_reducible first | exact HB.out | apply below_alloc | apply pw_below_drewN | apply below_drew1) | exact HB.out))) : w.heap.size ≤ gb948)); have n3_ := Aside0.mk ((by rw [hg]; exact (below_size (by repeat (first | (with_reducible first | exact HB.out | apply below_alloc | apply pw_below_drewN | apply below_drew1) | exact HB.out))) : w.heap.size ≤ gb948)); clear HB; have HB := n0_; have BK948 := n1_; have GW948 := n2_; have GE948 := n3_; clear n0_ n1_ n2_ n3_; clear hb hbox hg; have hcz23_0 : w22.cell? ⟨gb948, 0, none⟩ = some (.int .i64 a0_0) := (blk_cell BK948.out 0).trans rfl; have hcz23_1 : w22.cell? ⟨gb948, 1, none⟩ = some (.slice A0_1 l0_1.length c0_1) := (blk_cell BK948.out 1).trans rfl; have hfz23_0 := blk_frozen BK948.out 0; have hfz23_1 := blk_frozen BK948.out 1) | ((with_reducible refine gate_callee (f := 15) rfl ?_); refine goesL_ (some 28) rfl rfl Try.func15 (by kernel_rfl) rfl #[.agg #[.int .i64 a0_0, .slice A0_1 l0_1.length c0_1], .int .i64 1048576] rfl (by (try simp only [List.map_toArray, List.map_cons, List.map_nil]); first | done | rfl | (simp only [List.length_drop, List.length_take]; rfl)) ?_; (with_reducible refine (laws_szSpace.calls a0_0 _ _ l0_1 1048576 t949 _ ?side1 ?side2 A8.out).mono ?_); (case side1 => repeat (first | exact (Kd.C_below HR0_1.out HB.out) | (with_reducible refine Kd.C_alloc ?_ _) | (with_reducible refine Kd.C_drewN ?_ _) | (with_reducible refine Kd.C_drew ?_))); (case side2 => exact HC0_1.out); rintro e w24 ⟨rfl, hb⟩; refine ⟨_, rfl, ?_⟩; have n0_ := Aside0.mk (blk_below (g := gb948) (o := .cells #[.int .i64 a0_0, .slice A0_1 l0_1.length c0_1] 24 (0, 0)) (by (with_reducible repeat (first | refine blk_drewN ?_ _ | refine blk_drew ?_ | refine blk_alloc ?_ _)); exact BK948.out) hb); have n1_ := Aside0.mk (below_step (by repeat (first | (with_reducible first | exact HB.out | apply below_alloc | apply pw_below_drewN | apply below_drew1 | refine below_set ?_ GE948.out) | exact HB.out)) hb); clear BK948; clear HB; have BK948 := n0_; have HB := n1_; clear n0_ n1_; (try clear hb); (try clear hb2); (try clear hk); (try clear hi); have hcz25_0 : w24.cell? ⟨gb948, 0, none⟩ = some (.int .i64 a0_0) := (blk_cell BK948.out 0).trans rfl; have hcz25_1 : w24.cell? ⟨gb948, 1, none⟩ = some (.slice A0_1 l0_1.length c0_1) := (blk_cell BK948.out 1).trans rfl; have hfz25_0 := blk_frozen BK948.out 0; have hfz25_1 := blk_frozen BK948.out 1) | ((with_reducible refine gate_callee (f := 17) rfl ?_); refine goesL_ (some 33) rfl rfl Try.func17 (by kernel_rfl) rfl #[.agg #[.int .i64 a0_0, .slice A0_1 l0_1.length c0_1]] rfl (by (try simp only [List.map_toArray, List.map_cons, List.map_nil]); first | done | rfl | (simp only [List.length_drop, List.length_take]; rfl)) ?_; (with_reducible refine (laws_toSpace.calls k a0_0 _ _ l0_1 t950 t951 _ ?side1 ?side2 A13.out).mono ?_); (case side1 => repeat (first | exact (Kd.C_below HR0_1.out HB.out) | (with_reducible refine Kd.C_alloc ?_ _) | (with_reducible refine Kd.C_drewN ?_ _) | (with_reducible refine Kd.C_drew ?_))); (case side2 => exact HC0_1.out); rintro e w26 ⟨v952, rfl, ho0, hb⟩; refine ⟨_, rfl, ?_⟩; have n0_ := Aside0.mk (Kd.R_lower ho0 (below_size (by repeat (first | (with_reducible first | exact HB.out | apply below_alloc | apply pw_below_drewN | apply below_drew1 | refine below_set ?_ GE948.out) | exact HB.out)))); have n1_ := Aside0.mk (blk_below (g := gb948) (o := .cells #[.int .i64 a0_0, .slice A0_1 l0_1.length c0_1] 24 (0, 0)) (by (with_reducible repeat (first | refine blk_drewN ?_ _ | refine blk_drew ?_ | refine blk_alloc ?_ _)); exact BK948.out) hb); have n2_ := Aside0.mk (below_step (by repeat (first | (with_reducible first | exact HB.out | apply below_alloc | apply pw_below_drewN | apply below_drew1 | refine below_set ?_ GE948.out) | exact HB.out)) hb); clear BK948; clear HB; have HO953 := n0_; have BK948 := n1_; have HB := n2_; clear n0_ n1_ n2_; (try clear hb); (try clear hb2); (try clear hk); (try clear hi); (try clear ho0)) | ((with_reducible refine gate_callee (f := 21) rfl ?_); refine goesL_ (some 35) rfl rfl Try.func21 (by kernel_rfl) rfl #[.slice A1 l1.length c1] rfl (by (try simp only [List.map_toArray, List.map_cons, List.map_nil]); first | done | rfl | (simp only [List.length_drop, List.length_take]; rfl)) ?_; (with_reducible refine (laws_toIntS.calls k _ _ l1 t954 _ ?side1 ?side2 A14.out).mono ?_); (case side1 => repeat (first | exact (Kd.C_below HR1.out HB.out) | (with_reducible refine Kd.C_alloc ?_ _) | (with_reducible refine Kd.C_drewN ?_ _) | (with_reducible refine Kd.C_drew ?_))); (case side2 => exact HC1.out); rintro e w27 ⟨v955, rfl, ho0, hb⟩; refine ⟨_, rfl, ?_⟩; have n0_ := Aside0.mk (Kd.R_elder' (by (with_reducible repeat (first | apply Kd.R_alloc | apply Kd.R_drewN | apply Kd.R_drew)); exact HO953.out) (Kd.R_base ho0) hb); have n1_ := Aside0.mk (Kd.R_lower (Kd.R_new' ho0 (Kd.R_lt (by (with_reducible repeat (first | apply Kd.R_alloc | apply Kd.R_drewN | apply Kd.R_drew)); exact HO953.out))) (below_size (by repeat (first | (with_reducible first | exact HB.out | apply below_alloc | apply pw_below_drewN | apply below_drew1 | refine below_set ?_ GE948.out) | exact HB.out)))); have n2_ := Aside0.mk (blk_below (g := gb948) (o := .cells #[.int .i64 a0_0, .slice A0_1 l0_1.length c0_1] 24 (0, 0)) (by (with_reducible repeat (first | refine blk_drewN ?_ _ | refine blk_drew ?_ | refine blk_alloc ?_ _)); exact BK948.out) hb); have n3_ := Aside0.mk (below_step (by repeat (first | (with_reducible first | exact HB.out | apply below_alloc | apply pw_below_drewN | apply below_drew1 | refine below_set ?_ GE948.out) | exact HB.out)) hb); clear HO953; clear BK948; clear HB; have HO953 := n0_; have HO956 := n1_; have BK948 := n2_; have HB := n3_; clear n0_ n1_ n2_ n3_; (try clear hb); (try clear hb2); (try clear hk); (try clear hi); (try clear ho0)) | ((with_reducible refine gate_callee (f := 21) rfl ?_); refine goesL_ (some 37) rfl rfl Try.func21 (by kernel_rfl) rfl #[.slice A2 l2.length c2] rfl (by (try simp only [List.map_toArray, List.map_cons, List.map_nil]); first | done | rfl | (simp only [List.length_drop, List.length_take]; rfl)) ?_; (with_reducible refine (laws_toIntS.calls k _ _ l2 t957 _ ?side1 ?side2 A15.out).mono ?_); (case side1 => repeat (first | exact (Kd.C_below HR2.out HB.out) | (with_reducible refine Kd.C_alloc ?_ _) | (with_reducible refine Kd.C_drewN ?_ _) | (with_reducible refine Kd.C_drew ?_))); (case side2 => exact HC2.out); rintro e w28 ⟨v958, rfl, ho0, hb⟩; refine ⟨_, rfl, ?_⟩; have n0_ := Aside0.mk (Kd.R_elder' (by (with_reducible repeat (first | apply Kd.R_alloc | apply Kd.R_drewN | apply Kd.R_drew)); exact HO953.out) (Kd.R_base ho0) hb); have n1_ := Aside0.mk (Kd.R_elder' (by (with_reducible repeat (first | apply Kd.R_alloc | apply Kd.R_drewN | apply Kd.R_drew)); exact HO956.out) (Kd.R_base ho0) hb); have n2_ := Aside0.mk (Kd.R_lower (Kd.R_new' (Kd.R_new' ho0 (Kd.R_lt (by (with_reducible repeat (first | apply Kd.R_alloc | apply Kd.R_drewN | apply Kd.R_drew)); exact HO953.out))) (Kd.R_lt (by (with_reducible repeat (first | apply Kd.R_alloc | apply Kd.R_drewN | apply Kd.R_drew)); exact HO956.out))) (below_size (by repeat (first | (with_reducible first | exact HB.out | apply below_alloc | apply pw_below_drewN | apply below_drew1 | refine below_set ?_ GE948.out) | exact HB.out)))); have n3_ := Aside0.mk (blk_below (g := gb948) (o := .cells #[.int .i64 a0_0, .slice A0_1 l0_1.length c0_1] 24 (0, 0)) (by (with_reducible repeat (first | refine blk_drewN ?_ _ | refine blk_drew ?_ | refine blk_alloc ?_ _)); exact BK948.out) hb); have n4_ := Aside0.mk (below_step (by repeat (first | (with_reducible first | exact HB.out | apply below_alloc | apply pw_below_drewN | apply below_drew1 | refine below_set ?_ GE948.out) | exact HB.out)) hb); clear HO953; clear HO956; clear BK948; clear HB; have HO953 := n0_; have HO956 := n1_; have HO959 := n2_; have BK948 := n3_; have HB := n4_; clear n0_ n1_ n2_ n3_ n4_; (try clear hb); (try clear hb2); (try clear hk); (try clear hi); (try clear ho0); obtain ⟨Ao29, co29, eo29⟩ := Kd.R_slice HO953.out; subst eo29; obtain ⟨Ao30, co30, eo30⟩ := Kd.R_slice HO956.out; subst eo30; obtain ⟨Ao31, co31, eo31⟩ := Kd.R_slice HO959.out; subst eo31) | ((with_reducible refine gate_callee (f := 49) rfl ?_); refine goesL_ (some 38) rfl rfl Try.func49 (by kernel_rfl) rfl #[.agg #[.int .i64 t950, .slice Ao29 t951.length co29], .slice Ao30 t954.length co30, .slice Ao31 t957.length co31] rfl (by (try simp only [List.map_toArray, List.map_cons, List.map_nil]); first | done | rfl | (simp only [List.length_drop, List.length_take]; rfl)) ?_; (with_reducible refine (spec_ExchangeWord.calls k t950 _ _ t951 _ _ t954 _ _ t957 t960 t963 _ ?side1 ?side2 ?side3 ?side4 ?side5 ?side6 A16.out).mono ?_); (case side1 => repeat (first | exact (Kd.R_reads' HO953.out).2.2 | (with_reducible refine Kd.C_alloc ?_ _) | (with_reducible refine Kd.C_drewN ?_ _) | (with_reducible refine Kd.C_drew ?_))); (case side2 => exact (Kd.R_reads' HO953.out).2.1); (case side3 => repeat (first | exact (Kd.R_reads' HO956.out).2.2 | (with_reducible refine Kd.C_alloc ?_ _) | (with_reducible refine Kd.C_drewN ?_ _) | (with_reducible refine Kd.C_drew ?_))); (case side4 => exact (Kd.R_reads' HO956.out).2.1); (case side5 => repeat (first | exact (Kd.R_reads' HO959.out).2.2 | (with_reducible refine Kd.C_alloc ?_ _) | (with_reducible refine Kd.C_drewN ?_ _) | (with_reducible refine Kd.C_drew ?_))); (case side6 => exact (Kd.R_reads' HO959.out).2.1); rintro e w32 ⟨v961, rfl, ho0, hb⟩; refine ⟨_, rfl, ?_⟩; have n0_ := Aside0.mk (Kd.R_elder' (by (with_reducible repeat (first | apply Kd.R_alloc | apply Kd.R_drewN | apply Kd.R_drew)); exact HO953.out) (Kd.R_base ho0) hb); have n1_ := Aside0.mk (Kd.R_elder' (by (with_reducible repeat (first | apply Kd.R_alloc | apply Kd.R_drewN | apply Kd.R_drew)); exact HO956.out) (Kd.R_base ho0) hb); have n2_ := Aside0.mk (Kd.R_elder' (by (with_reducible repeat (first | apply Kd.R_alloc | apply Kd.R_drewN | apply Kd.R_drew)); exact HO959.out) (Kd.R_base ho0) hb); have n3_ := Aside0.mk (Kd.R_lower (Kd.R_new' (Kd.R_new' (Kd.R_new' ho0 (Kd.R_lt (by (with_reducible repeat (first | apply Kd.R_alloc | apply Kd.R_drewN | apply Kd.R_drew)); exact HO953.out))) (Kd.R_lt (by (with_reducible repeat (first | apply Kd.R_alloc | apply Kd.R_drewN | apply Kd.R_drew)); exact HO956.out))) (Kd.R_lt (by (with_reducible repeat (first | apply Kd.R_alloc | apply Kd.R_drewN | apply Kd.R_drew)); exact HO959.out))) (below_size (by repeat (first | (with_reducible first | exact HB.out | apply below_alloc | apply pw_below_drewN | apply below_drew1 | refine below_set ?_ GE948.out) | exact HB.out)))); have n4_ := Aside0.mk (blk_below (g := gb948) (o := .cells #[.int .i64 a0_0, .slice A0_1 l0_1.length c0_1] 24 (0, 0)) (by (with_reducible repeat (first | refine blk_drewN ?_ _ | refine blk_drew ?_ | refine blk_alloc ?_ _)); exact BK948.out) hb); have n5_ := Aside0.mk (below_step (by repeat (first | (with_reducible first | exact HB.out | apply below_alloc | apply pw_below_drewN | apply below_drew1 | refine below_set ?_ GE948.out) | exact HB.out)) hb); clear HO953; clear HO956; clear HO959; clear BK948; clear HB; have HO953 := n0_; have HO956 := n1_; have HO959 := n2_; have HO962 := n3_; have BK948 := n4_; have HB := n5_; clear n0_ n1_ n2_ n3_ n4_ n5_; (try clear hb); (try clear hb2); (try clear hk); (try clear hi); (try clear ho0); have hcz33_0 : w32.cell? ⟨gb948, 0, none⟩ = some (.int .i64 a0_0) := (blk_cell BK948.out 0).trans rfl; have hcz33_1 : w32.cell? ⟨gb948, 1, none⟩ = some (.slice A0_1 l0_1.length c0_1) := (blk_cell BK948.out 1).trans rfl; have hfz33_0 := blk_frozen BK948.out 0; have hfz33_1 := blk_frozen BK948.out 1) | ((with_reducible refine gate_callee (f := 17) rfl ?_); refine goesL_ (some 42) rfl rfl Try.func17 (by kernel_rfl) rfl #[.agg #[.int .i64 a0_0, .slice A0_1 l0_1.length c0_1]] rfl (by (try simp only [List.map_toArray, List.map_cons, List.map_nil]); first | done | rfl | (simp only [List.length_drop, List.length_take]; rfl)) ?_; (with_reducible refine (laws_toSpace.calls k a0_0 _ _ l0_1 t964 t965 _ ?side1 ?side2 A17.out).mono ?_); (case side1 => repeat (first | exact (Kd.C_below HR0_1.out HB.out) | (with_reducible refine Kd.C_alloc ?_ _) | (with_reducible refine Kd.C_drewN ?_ _) | (with_reducible refine Kd.C_drew ?_))); (case side2 => exact HC0_1.out); rintro e w34 ⟨v966, rfl, ho0, hb⟩; refine ⟨_, rfl, ?_⟩; have n0_ := Aside0.mk (Kd.R_elder' (by (with_reducible repeat (first | apply Kd.R_alloc | apply Kd.R_drewN | apply Kd.R_drew)); exact HO953.out) (Kd.R_base ho0) hb); have n1_ := Aside0.mk (Kd.R_elder' (by (with_reducible repeat (first | apply Kd.R_alloc | apply Kd.R_drewN | apply Kd.R_drew)); exact HO956.out) (Kd.R_base ho0) hb); have n2_ := Aside0.mk (Kd.R_elder' (by (with_reducible repeat (first | apply Kd.R_alloc | apply Kd.R_drewN | apply Kd.R_drew)); exact HO959.out) (Kd.R_base ho0) hb); have n3_ := Aside0.mk (Kd.R_elder' (by (with_reducible repeat (first | apply Kd.R_alloc | apply Kd.R_drewN | apply Kd.R_drew)); exact HO962.out) (Kd.R_base ho0) hb); have n4_ := Aside0.mk (Kd.R_lower (Kd.R_new' (Kd.R_new' (Kd.R_new' (Kd.R_new' ho0 (Kd.R_lt (by (with_reducible repeat (first | apply Kd.R_alloc | apply Kd.R_drewN | apply Kd.R_drew)); exact HO953.out))) (Kd.R_lt (by (with_reducible repeat (first | apply Kd.R_alloc | apply Kd.R_drewN | apply Kd.R_drew)); exact HO956.out))) (Kd.R_lt (by (with_reducible repeat (first | apply Kd.R_alloc | apply Kd.R_drewN | apply Kd.R_drew)); exact HO959.out))) (Kd.R_lt (by (with_reducible repeat (first | apply Kd.R_alloc | apply Kd.R_drewN | apply Kd.R_drew)); exact HO962.out))) (below_size (by repeat (first | (with_reducible first | exact HB.out | apply below_alloc | apply pw_below_drewN | apply below_drew1 | refine below_set ?_ GE948.out) | exact HB.out)))); have n5_ := Aside0.mk (blk_below (g := gb948) (o := .cells #[.int .i64 a0_0, .slice A0_1 l0_1.length c0_1] 24 (0, 0)) (by (with_reducible repeat (first | refine blk_drewN ?_ _ | refine blk_drew ?_ | refine blk_alloc ?_ _)); exact BK948.out) hb); have n6_ := Aside0.mk (below_step (by repeat (first | (with_reducible first | exact HB.out | apply below_alloc | apply pw_below_drewN | apply below_drew1 | refine below_set ?_ GE948.out) | exact HB.out)) hb); clear HO953; clear HO956; clear HO959; clear HO962; clear BK948; clear HB; have HO953 := n0_; have HO956 := n1_; have HO959 := n2_; have HO962 := n3_; have HO967 := n4_; have BK948 := n5_; have HB := n6_; clear n0_ n1_ n2_ n3_ n4_ n5_ n6_; (try clear hb); (try clear hb2); (try clear hk); (try clear hi); (try clear ho0)) | ((with_reducible refine gate_dst (N := 10) rfl ?_); refine box_event ?hg (N := 10) ?hd (cs := #[.int .i64 0, .slice none 0 0]) (t := 28) ?hr ?_; (case hd => rfl); (case hg => rfl); (case hr => first | (go_simp; done) | (go_simp; rfl)); intro gb968 hg w35 hbox hb; have n0_ := Aside0.mk (Kd.R_below (by (with_reducible repeat (first | apply Kd.R_alloc | apply Kd.R_drewN | apply Kd.R_drew)); exact HO953.out) hb); have n1_ := Aside0.mk (Kd.R_below (by (with_reducible repeat (first | apply Kd.R_alloc | apply Kd.R_drewN | apply Kd.R_drew)); exact HO956.out) hb); have n2_ := Aside0.mk (Kd.R_below (by (with_reducible repeat (first | apply Kd.R_alloc | apply Kd.R_drewN | apply Kd.R_drew)); exact HO959.out) hb); have n3_ := Aside0.mk (Kd.R_below (by (with_reducible repeat (first | apply Kd.R_alloc | apply Kd.R_drewN | apply Kd.R_drew)); exact HO962.out) hb); have n4_ := Aside0.mk (Kd.R_below (by (with_reducible repeat (first | apply Kd.R_alloc | apply Kd.R_drewN | apply Kd.R_drew)); exact HO967.out) hb); have n5_ := Aside0.mk (blk_below (g := gb948) (o := .cells #[.int .i64 a0_0, .slice A0_1 l0_1.length c0_1] 24 (0, 0)) (by (with_reducible repeat (first | refine blk_drewN ?_ _ | refine blk_drew ?_ | refine blk_alloc ?_ _)); exact BK948.out) hb); have n6_ := Aside0.mk (below_step (by repeat (first | (with_reducible first | exact HB.out | apply below_alloc | apply pw_below_drewN | apply below_drew1 | refine below_set ?_ GE948.out) | exact HB.out)) hb); have n7_ := Aside0.mk (hbox); have n8_ := Aside0.mk ((by rw [hg]; exact (below_size (by repeat (first | (with_reducible first | exact HB.out | apply below_alloc | apply pw_below_drewN | apply below_drew1 | refine below_set ?_ GE948.out) | exact HB.out))) : w.heap.size ≤ gb968)); have n9_ := Aside0.mk ((by rw [hg]; exact (below_size (by repeat (first | (with_reducible first | exact HB.out | apply below_alloc | apply pw_below_drewN | apply below_drew1 | refine below_set ?_ GE948.out) | exact HB.out))) : w.heap.size ≤ gb968)); have n10_ := Aside0.mk ((by rw [hg]; exact Nat.ne_of_lt (blk_lt (g := gb948) (o := .cells #[.int .i64 a0_0, .slice A0_1 l0_1.length c0_1] 24 (0, 0)) (by (with_reducible repeat (first | refine blk_drewN ?_ _ | refine blk_drew ?_ | refine blk_alloc ?_ _)); exact BK948.out)) : gb948 ≠ gb968)); have n11_ := Aside0.mk ((by rw [hg]; exact Nat.ne_of_gt (blk_lt (g := gb948) (o := .cells #[.int .i64 a0_0, .slice A0_1 l0_1.length c0_1] 24 (0, 0)) (by (with_reducible repeat (first | refine blk_drewN ?_ _ | refine blk_drew ?_ | refine blk_alloc ?_ _)); exact BK948.out)) : gb968 ≠ gb948)); clear HO953; clear HO956; clear HO959; clear HO962; clear HO967; clear BK948; clear HB; have HO953 := n0_; have HO956 := n1_; have HO959 := n2_; have HO962 := n3_; have HO967 := n4_; have BK948 := n5_; have HB := n6_; have BK968 := n7_; have GW968 := n8_; have GE968 := n9_; have NB948_968 := n10_; have NB968_948 := n11_; clear n0_ n1_ n2_ n3_ n4_ n5_ n6_ n7_ n8_ n9_ n10_ n11_; clear hb hbox hg; have hnb36 := NB968_948.out; have hnc36 := NB948_968.out; have hcz37_0 : w35.cell? ⟨gb968, 0, none⟩ = some (.int .i64 0) := (blk_cell BK968.out 0).trans rfl; have hcz37_1 : w35.cell? ⟨gb968, 1, none⟩ = some (.slice none 0 0) := (blk_cell BK968.out 1).trans rfl; have hfz37_0 := blk_frozen BK968.out 0; have hfz37_1 := blk_frozen BK968.out 1; obtain ⟨Ao38, co38, eo38⟩ := Kd.R_slice HO967.out; subst eo38) | ((with_reducible refine gate_callee (f := 21) rfl ?_); refine goesL_ (some 44) rfl rfl Try.func21 (by kernel_rfl) rfl #[.slice A1 l1.length c1] rfl (by (try simp only [List.map_toArray, List.map_cons, List.map_nil]); first | done | rfl | (simp only [List.length_drop, List.length_take]; rfl)) ?_; (with_reducible refine (laws_toIntS.calls k _ _ l1 t969 _ ?side1 ?side2 A18.out).mono ?_); (case side1 => exact Kd.C_below HR1.out (by repeat (first | (with_reducible first | exact HB.out | apply below_alloc | apply pw_below_drewN | apply below_drew1 | refine below_set ?_ GE948.out | refine below_set ?_ GE968.out) | exact HB.out))); (case side2 => exact HC1.out); rintro e w39 ⟨v970, rfl, ho0, hb⟩; refine ⟨_, rfl, ?_⟩; have n0_ := Aside0.mk (Kd.R_elder' (by (with_reducible repeat (first | apply Kd.R_alloc | apply Kd.R_drewN | apply Kd.R_drew)); exact (Kd.R_mono (Kd.R_far (p := ⟨gb968, 1, none⟩) (Kd.R_far (p := ⟨gb968, 0, none⟩) (Kd.R_types HO953.out BK968.out (by decide)) (fun _ hk => hk.2) (.int .i64 t964)) (fun _ hk => hk.2) (.slice Ao38 t965.length co38)) (fun _ h_ => h_.1))) (Kd.R_base ho0) hb); have n1_ := Aside0.mk (Kd.R_elder' (by (with_reducible repeat (first | apply Kd.R_alloc | apply Kd.R_drewN | apply Kd.R_drew)); exact (Kd.R_mono (Kd.R_far (p := ⟨gb968, 1, none⟩) (Kd.R_far (p := ⟨gb968, 0, none⟩) (Kd.R_types HO956.out BK968.out (by decide)) (fun _ hk => hk.2) (.int .i64 t964)) (fun _ hk => hk.2) (.slice Ao38 t965.length co38)) (fun _ h_ => h_.1))) (Kd.R_base ho0) hb); have n2_ := Aside0.mk (Kd.R_elder' (by (with_reducible repeat (first | apply Kd.R_alloc | apply Kd.R_drewN | apply Kd.R_drew)); exact (Kd.R_mono (Kd.R_far (p := ⟨gb968, 1, none⟩) (Kd.R_far (p := ⟨gb968, 0, none⟩) (Kd.R_types HO959.out BK968.out (by decide)) (fun _ hk => hk.2) (.int .i64 t964)) (fun _ hk => hk.2) (.slice Ao38 t965.length co38)) (fun _ h_ => h_.1))) (Kd.R_base ho0) hb); have n3_ := Aside0.mk (Kd.R_elder' (by (with_reducible repeat (first | apply Kd.R_alloc | apply Kd.R_drewN | apply Kd.R_drew)); exact (Kd.R_mono (Kd.R_far (p := ⟨gb968, 1, none⟩) (Kd.R_far (p := ⟨gb968, 0, none⟩) (Kd.R_types HO962.out BK968.out (by decide)) (fun _ hk => hk.2) (.int .i64 t964)) (fun _ hk => hk.2) (.slice Ao38 t965.length co38)) (fun _ h_ => h_.1))) (Kd.R_base ho0) hb); have n4_ := Aside0.mk (Kd.R_elder' (by (with_reducible repeat (first | apply Kd.R_alloc | apply Kd.R_drewN | apply Kd.R_drew)); exact (Kd.R_mono (Kd.R_far (p := ⟨gb968, 1, none⟩) (Kd.R_far (p := ⟨gb968, 0, none⟩) (Kd.R_types HO967.out BK968.out (by decide)) (fun _ hk => hk.2) (.int .i64 t964)) (fun _ hk => hk.2) (.slice Ao38 t965.length co38)) (fun _ h_ => h_.1))) (Kd.R_base ho0) hb); have n5_ := Aside0.mk (Kd.R_lower (Kd.R_new' (Kd.R_new' (Kd.R_new' (Kd.R_new' (Kd.R_new' ho0 (Kd.R_lt (by (with_reducible repeat (first | apply Kd.R_alloc | apply Kd.R_drewN | apply Kd.R_drew)); exact (Kd.R_mono (Kd.R_far (p := ⟨gb968, 1, none⟩) (Kd.R_far (p := ⟨gb968, 0, none⟩) (Kd.R_types HO953.out BK968.out (by decide)) (fun _ hk => hk.2) (.int .i64 t964)) (fun _ hk => hk.2) (.slice Ao38 t965.length co38)) (fun _ h_ => h_.1))))) (Kd.R_lt (by (with_reducible repeat (first | apply Kd.R_alloc | apply Kd.R_drewN | apply Kd.R_drew)); exact (Kd.R_mono (Kd.R_far (p := ⟨gb968, 1, none⟩) (Kd.R_far (p := ⟨gb968, 0, none⟩) (Kd.R_types HO956.out BK968.out (by decide)) (fun _ hk => hk.2) (.int .i64 t964)) (fun _ hk => hk.2) (.slice Ao38 t965.length co38)) (fun _ h_ => h_.1))))) (Kd.R_lt (by (with_reducible repeat (first | apply Kd.R_alloc | apply Kd.R_drewN | apply Kd.R_drew)); exact (Kd.R_mono (Kd.R_far (p := ⟨gb968, 1, none⟩) (Kd.R_far (p := ⟨gb968, 0, none⟩) (Kd.R_types HO959.out BK968.out (by decide)) (fun _ hk => hk.2) (.int .i64 t964)) (fun _ hk => hk.2) (.slice Ao38 t965.length co38)) (fun _ h_ => h_.1))))) (Kd.R_lt (by (with_reducible repeat (first | apply Kd.R_alloc | apply Kd.R_drewN | apply Kd.R_drew)); exact (Kd.R_mono (Kd.R_far (p := ⟨gb968, 1, none⟩) (Kd.R_far (p := ⟨gb968, 0, none⟩) (Kd.R_types HO962.out BK968.out (by decide)) (fun _ hk => hk.2) (.int .i64 t964)) (fun _ hk => hk.2) (.slice Ao38 t965.length co38)) (fun _ h_ => h_.1))))) (Kd.R_lt (by (with_reducible repeat (first | apply Kd.R_alloc | apply Kd.R_drewN | apply Kd.R_drew)); exact (Kd.R_mono (Kd.R_far (p := ⟨gb968, 1, none⟩) (Kd.R_far (p := ⟨gb968, 0, none⟩) (Kd.R_types HO967.out BK968.out (by decide)) (fun _ hk => hk.2) (.int .i64 t964)) (fun _ hk => hk.2) (.slice Ao38 t965.length co38)) (fun _ h_ => h_.1))))) (below_size (by repeat (first | (with_reducible first | exact HB.out | apply below_alloc | apply pw_below_drewN | apply below_drew1 | refine below_set ?_ GE948.out | refine below_set ?_ GE968.out) | exact HB.out)))); have n6_ := Aside0.mk (blk_below (g := gb948) (o := .cells #[.int .i64 a0_0, .slice A0_1 l0_1.length c0_1] 24 (0, 0)) (by (with_reducible repeat (first | refine blk_drewN ?_ _ | refine blk_drew ?_ | refine blk_alloc ?_ _)); refine blk_far ?_ NB948_968.out _; (with_reducible repeat (first | refine blk_drewN ?_ _ | refine blk_drew ?_ | refine blk_alloc ?_ _)); refine blk_far ?_ NB948_968.out _; (with_reducible repeat (first | refine blk_drewN ?_ _ | refine blk_drew ?_ | refine blk_alloc ?_ _)); exact BK948.out) hb); have n7_ := Aside0.mk (blk_below (g := gb968) (o := .cells #[.int .i64 t964, .slice Ao38 t965.length co38] 28 (0, 0)) (by (with_reducible repeat (first | refine blk_drewN ?_ _ | refine blk_drew ?_ | refine blk_alloc ?_ _)); refine blk_put (cs := #[.int .i64 t964, .slice none 0 0]) ?_ 1 _ rfl; (with_reducible repeat (first | refine blk_drewN ?_ _ | refine blk_drew ?_ | refine blk_alloc ?_ _)); refine blk_put (cs := #[.int .i64 0, .slice none 0 0]) ?_ 0 _ rfl; (with_reducible repeat (first | refine blk_drewN ?_ _ | refine blk_drew ?_ | refine blk_alloc ?_ _)); exact BK968.out) hb); have n8_ := Aside0.mk (below_step (by repeat (first | (with_reducible first | exact HB.out | apply below_alloc | apply pw_below_drewN | apply below_drew1 | refine below_set ?_ GE948.out | refine below_set ?_ GE968.out) | exact HB.out)) hb); clear HO953; clear HO956; clear HO959; clear HO962; clear HO967; clear BK948; clear BK968; clear HB; have HO953 := n0_; have HO956 := n1_; have HO959 := n2_; have HO962 := n3_; have HO967 := n4_; have HO971 := n5_; have BK948 := n6_; have BK968 := n7_; have HB := n8_; clear n0_ n1_ n2_ n3_ n4_ n5_ n6_ n7_ n8_; (try clear hb); (try clear hb2); (try clear hk); (try clear hi); (try clear ho0)) | ((with_reducible refine gate_callee (f := 21) rfl ?_); refine goesL_ (some 46) rfl rfl Try.func21 (by kernel_rfl) rfl #[.slice A2 l2.length c2] rfl (by (try simp only [List.map_toArray, List.map_cons, List.map_nil]); first | done | rfl | (simp only [List.length_drop, List.length_take]; rfl)) ?_; (with_reducible refine (laws_toIntS.calls k _ _ l2 t972 _ ?side1 ?side2 A19.out).mono ?_); (case side1 => repeat (first | exact (Kd.C_below HR2.out HB.out) | (with_reducible refine Kd.C_alloc ?_ _) | (with_reducible refine Kd.C_drewN ?_ _) | (with_reducible refine Kd.C_drew ?_))); (case side2 => exact HC2.out); rintro e w40 ⟨v973, rfl, ho0, hb⟩; refine ⟨_, rfl, ?_⟩; have n0_ := Aside0.mk (Kd.R_elder' (by (with_reducible repeat (first | apply Kd.R_alloc | apply Kd.R_drewN | apply Kd.R_drew)); exact HO953.out) (Kd.R_base ho0) hb); have n1_ := Aside0.mk (Kd.R_elder' (by (with_reducible repeat (first | apply Kd.R_alloc | apply Kd.R_drewN | apply Kd.R_drew)); exact HO956.out) (Kd.R_base ho0) hb); have n2_ := Aside0.mk (Kd.R_elder' (by (with_reducible repeat (first | apply Kd.R_alloc | apply Kd.R_drewN | apply Kd.R_drew)); exact HO959.out) (Kd.R_base ho0) hb); have n3_ := Aside0.mk (Kd.R_elder' (by (with_reducible repeat (first | apply Kd.R_alloc | apply Kd.R_drewN | apply Kd.R_drew)); exact HO962.out) (Kd.R_base ho0) hb); have n4_ := Aside0.mk (Kd.R_elder' (by (with_reducible repeat (first | apply Kd.R_alloc | apply Kd.R_drewN | apply Kd.R_drew)); exact HO967.out) (Kd.R_base ho0) hb); have n5_ := Aside0.mk (Kd.R_elder' (by (with_reducible repeat (first | apply Kd.R_alloc | apply Kd.R_drewN | apply Kd.R_drew)); exact HO971.out) (Kd.R_base ho0) hb); have n6_ := Aside0.mk (Kd.R_lower (Kd.R_new' (Kd.R_new' (Kd.R_new' (Kd.R_new' (Kd.R_new' (Kd.R_new' ho0 (Kd.R_lt (by (with_reducible repeat (first | apply Kd.R_alloc | apply Kd.R_drewN | apply Kd.R_drew)); exact HO953.out))) (Kd.R_lt (by (with_reducible repeat (first | apply Kd.R_alloc | apply Kd.R_drewN | apply Kd.R_drew)); exact HO956.out))) (Kd.R_lt (by (with_reducible repeat (first | apply Kd.R_alloc | apply Kd.R_drewN | apply Kd.R_drew)); exact HO959.out))) (Kd.R_lt (by (with_reducible repeat (first | apply Kd.R_alloc | apply Kd.R_drewN | apply Kd.R_drew)); exact HO962.out))) (Kd.R_lt (by (with_reducible repeat (first | apply Kd.R_alloc | apply Kd.R_drewN | apply Kd.R_drew)); exact HO967.out))) (Kd.R_lt (by (with_reducible repeat (first | apply Kd.R_alloc | apply Kd.R_drewN | apply Kd.R_drew)); exact HO971.out))) (below_size (by repeat (first | (with_reducible first | exact HB.out | apply below_alloc | apply pw_below_drewN | apply below_drew1 | refine below_set ?_ GE948.out | refine below_set ?_ GE968.out) | exact HB.out)))); have n7_ := Aside0.mk (blk_below (g := gb948) (o := .cells #[.int .i64 a0_0, .slice A0_1 l0_1.length c0_1] 24 (0, 0)) (by (with_reducible repeat (first | refine blk_drewN ?_ _ | refine blk_drew ?_ | refine blk_alloc ?_ _)); exact BK948.out) hb); have n8_ := Aside0.mk (blk_below (g := gb968) (o := .cells #[.int .i64 t964, .slice Ao38 t965.length co38] 28 (0, 0)) (by (with_reducible repeat (first | refine blk_drewN ?_ _ | refine blk_drew ?_ | refine blk_alloc ?_ _)); exact BK968.out) hb); have n9_ := Aside0.mk (below_step (by repeat (first | (with_reducible first | exact HB.out | apply below_alloc | apply pw_below_drewN | apply below_drew1 | refine below_set ?_ GE948.out | refine below_set ?_ GE968.out) | exact HB.out)) hb); clear HO953; clear HO956; clear HO959; clear HO962; clear HO967; clear HO971; clear BK948; clear BK968; clear HB; have HO953 := n0_; have HO956 := n1_; have HO959 := n2_; have HO962 := n3_; have HO967 := n4_; have HO971 := n5_; have HO974 := n6_; have BK948 := n7_; have BK968 := n8_; have HB := n9_; clear n0_ n1_ n2_ n3_ n4_ n5_ n6_ n7_ n8_ n9_; (try clear hb); (try clear hb2); (try clear hk); (try clear hi); (try clear ho0); have hcz41_0 : w40.cell? ⟨gb968, 0, none⟩ = some (.int .i64 t964) := (blk_cell BK968.out 0).trans rfl; have hcz41_1 : w40.cell? ⟨gb968, 1, none⟩ = some (.slice Ao38 t965.length co38) := (blk_cell BK968.out 1).trans rfl; have hfz41_0 := blk_frozen BK968.out 0; have hfz41_1 := blk_frozen BK968.out 1; obtain ⟨Ao42, co42, eo42⟩ := Kd.R_slice HO971.out; subst eo42; obtain ⟨Ao43, co43, eo43⟩ := Kd.R_slice HO974.out; subst eo43) | ((with_reducible refine gate_callee (f := 50) rfl ?_); refine goesL_ (some 51) rfl rfl Try.func50 (by kernel_rfl) rfl #[.agg #[.int .i64 t964, .slice Ao38 t965.length co38], .slice Ao42 t969.length co42, .slice Ao43 t972.length co43] rfl (by (try simp only [List.map_toArray, List.map_cons, List.map_nil]); first | done | rfl | (simp only [List.length_drop, List.length_take]; rfl)) ?_; (with_reducible refine (impl_ExchangeWord.calls k t964 _ _ t965 _ _ t969 _ _ t972 t975 t978 _ ?side1 ?side2 ?side3 ?side4 ?side5 ?side6 A20.out).mono ?_); (case side1 => repeat (first | exact (Kd.R_reads' HO967.out).2.2 | (with_reducible refine Kd.C_alloc ?_ _) | (with_reducible refine Kd.C_drewN ?_ _) | (with_reducible refine Kd.C_drew ?_))); (case side2 => exact (Kd.R_reads' HO967.out).2.1); (case side3 => repeat (first | exact (Kd.R_reads' HO971.out).2.2 | (with_reducible refine Kd.C_alloc ?_ _) | (with_reducible refine Kd.C_drewN ?_ _) | (with_reducible refine Kd.C_drew ?_))); (case side4 => exact (Kd.R_reads' HO971.out).2.1); (case side5 => repeat (first | exact (Kd.R_reads' HO974.out).2.2 | (with_reducible refine Kd.C_alloc ?_ _) | (with_reducible refine Kd.C_drewN ?_ _) | (with_reducible refine Kd.C_drew ?_))); (case side6 => exact (Kd.R_reads' HO974.out).2.1); rintro e w44 ⟨v976, rfl, ho0, hb⟩; refine ⟨_, rfl, ?_⟩; have n0_ := Aside0.mk (Kd.R_elder' (by (with_reducible repeat (first | apply Kd.R_alloc | apply Kd.R_drewN | apply Kd.R_drew)); exact HO953.out) (Kd.R_base ho0) hb); have n1_ := Aside0.mk (Kd.R_elder' (by (with_reducible repeat (first | apply Kd.R_alloc | apply Kd.R_drewN | apply Kd.R_drew)); exact HO956.out) (Kd.R_base ho0) hb); have n2_ := Aside0.mk (Kd.R_elder' (by (with_reducible repeat (first | apply Kd.R_alloc | apply Kd.R_drewN | apply Kd.R_drew)); exact HO959.out) (Kd.R_base ho0) hb); have n3_ := Aside0.mk (Kd.R_elder' (by (with_reducible repeat (first | apply Kd.R_alloc | apply Kd.R_drewN | apply Kd.R_drew)); exact HO962.out) (Kd.R_base ho0) hb); have n4_ := Aside0.mk (Kd.R_elder' (by (with_reducible repeat (first | apply Kd.R_alloc | apply Kd.R_drewN | apply Kd.R_drew)); exact HO967.out) (Kd.R_base ho0) hb); have n5_ := Aside0.mk (Kd.R_elder' (by (with_reducible repeat (first | apply Kd.R_alloc | apply Kd.R_drewN | apply Kd.R_drew)); exact HO971.out) (Kd.R_base ho0) hb); have n6_ := Aside0.mk (Kd.R_elder' (by (with_reducible repeat (first | apply Kd.R_alloc | apply Kd.R_drewN | apply Kd.R_drew)); exact HO974.out) (Kd.R_base ho0) hb); have n7_ := Aside0.mk (Kd.R_lower (Kd.R_new' (Kd.R_new' (Kd.R_new' (Kd.R_new' (Kd.R_new' (Kd.R_new' (Kd.R_new' ho0 (Kd.R_lt (by (with_reducible repeat (first | apply Kd.R_alloc | apply Kd.R_drewN | apply Kd.R_drew)); exact HO953.out))) (Kd.R_lt (by (with_reducible repeat (first | apply Kd.R_alloc | apply Kd.R_drewN | apply Kd.R_drew)); exact HO956.out))) (Kd.R_lt (by (with_reducible repeat (first | apply Kd.R_alloc | apply Kd.R_drewN | apply Kd.R_drew)); exact HO959.out))) (Kd.R_lt (by (with_reducible repeat (first | apply Kd.R_alloc | apply Kd.R_drewN | apply Kd.R_drew)); exact HO962.out))) (Kd.R_lt (by (with_reducible repeat (first | apply Kd.R_alloc | apply Kd.R_drewN | apply Kd.R_drew)); exact HO967.out))) (Kd.R_lt (by (with_reducible repeat (first | apply Kd.R_alloc | apply Kd.R_drewN | apply Kd.R_drew)); exact HO971.out))) (Kd.R_lt (by (with_reducible repeat (first | apply Kd.R_alloc | apply Kd.R_drewN | apply Kd.R_drew)); exact HO974.out))) (below_size (by repeat (first | (with_reducible first | exact HB.out | apply below_alloc | apply pw_below_drewN | apply below_drew1 | refine below_set ?_ GE948.out | refine below_set ?_ GE968.out) | exact HB.out)))); have n8_ := Aside0.mk (blk_below (g := gb948) (o := .cells #[.int .i64 a0_0, .slice A0_1 l0_1.length c0_1] 24 (0, 0)) (by (with_reducible repeat (first | refine blk_drewN ?_ _ | refine blk_drew ?_ | refine blk_alloc ?_ _)); exact BK948.out) hb); have n9_ := Aside0.mk (blk_below (g := gb968) (o := .cells #[.int .i64 t964, .slice Ao38 t965.length co38] 28 (0, 0)) (by (with_reducible repeat (first | refine blk_drewN ?_ _ | refine blk_drew ?_ | refine blk_alloc ?_ _)); exact BK968.out) hb); have n10_ := Aside0.mk (below_step (by repeat (first | (with_reducible first | exact HB.out | apply below_alloc | apply pw_below_drewN | apply below_drew1 | refine below_set ?_ GE948.out | refine below_set ?_ GE968.out) | exact HB.out)) hb); clear HO953; clear HO956; clear HO959; clear HO962; clear HO967; clear HO971; clear HO974; clear BK948; clear BK968; clear HB; have HO953 := n0_; have HO956 := n1_; have HO959 := n2_; have HO962 := n3_; have HO967 := n4_; have HO971 := n5_; have HO974 := n6_; have HO977 := n7_; have BK948 := n8_; have BK968 := n9_; have HB := n10_; clear n0_ n1_ n2_ n3_ n4_ n5_ n6_ n7_ n8_ n9_ n10_; (try clear hb); (try clear hb2); (try clear hk); (try clear hi); (try clear ho0)))
        (try simp only [Act.put, List.setIfInBounds_toArray, List.set_cons_zero, List.set_cons_succ])
        go_cut [62] (fun v62 wc => ∃ (kq : Nat) (x62_20 : Bool), v62 = .bool x62_20 ∧ Aside0 (laws_FnExactExchangeWord.j0 kq l1 l2 t960 t963 t969 t972 t975 t978 x62_20 a0_0 l0_1 t964 t965 = some r) ∧ Aside0 (kq ≤ k) ∧ Aside0 (Kd.R (Kd.int .i64) 3 wc w.heap.size (fun k_ => some k_ ≠ ((.slice Ao42 t969.length co42) : Value).ownBlock ∧ some k_ ≠ ((.slice Ao43 t972.length co43) : Value).ownBlock ∧ some k_ ≠ (v976 : Value).ownBlock ∧ some k_ ≠ ((.slice Ao38 t965.length co38) : Value).ownBlock) v961 t960) ∧ Aside0 (Kd.R (Kd.int .i64) 3 wc w.heap.size (fun k_ => some k_ ≠ (v961 : Value).ownBlock ∧ some k_ ≠ ((.slice Ao43 t972.length co43) : Value).ownBlock ∧ some k_ ≠ (v976 : Value).ownBlock ∧ some k_ ≠ ((.slice Ao38 t965.length co38) : Value).ownBlock) (.slice Ao42 t969.length co42) t969) ∧ Aside0 (Kd.R (Kd.int .i64) 3 wc w.heap.size (fun k_ => some k_ ≠ (v961 : Value).ownBlock ∧ some k_ ≠ ((.slice Ao42 t969.length co42) : Value).ownBlock ∧ some k_ ≠ (v976 : Value).ownBlock ∧ some k_ ≠ ((.slice Ao38 t965.length co38) : Value).ownBlock) (.slice Ao43 t972.length co43) t972) ∧ Aside0 (Kd.R (Kd.int .i64) 3 wc w.heap.size (fun k_ => some k_ ≠ (v961 : Value).ownBlock ∧ some k_ ≠ ((.slice Ao42 t969.length co42) : Value).ownBlock ∧ some k_ ≠ ((.slice Ao43 t972.length co43) : Value).ownBlock ∧ some k_ ≠ ((.slice Ao38 t965.length co38) : Value).ownBlock) v976 t975) ∧ Aside0 (Kd.R (Kd.int .i64) 3 wc w.heap.size (fun k_ => some k_ ≠ (v961 : Value).ownBlock ∧ some k_ ≠ ((.slice Ao42 t969.length co42) : Value).ownBlock ∧ some k_ ≠ ((.slice Ao43 t972.length co43) : Value).ownBlock ∧ some k_ ≠ (v976 : Value).ownBlock) (.slice Ao38 t965.length co38) t965) ∧ Aside0 (wc.heap[gb948]? = some (.cells #[.int .i64 a0_0, (.slice A0_1 l0_1.length c0_1)] 24 (0, 0))) ∧ Aside0 (wc.heap[gb968]? = some (.cells #[.int .i64 t964, (.slice Ao38 t965.length co38)] 28 (0, 0))) ∧ Aside0 (Below w.heap.size w wc))
        case first =>
          have H := HC21.out
          clear HC21
          replace H := Option.bind_eq_some_iff.mp H
          obtain ⟨t979, A450, H⟩ := H
          replace H : (if t979 = true then (laws_FnExactExchangeWord.j0 k l1 l2 t960 t963 t969 t972 t975 t978 (t978 != t963) a0_0 l0_1 t964 t965) else (laws_FnExactExchangeWord.j0 k l1 l2 t960 t963 t969 t972 t975 t978 true a0_0 l0_1 t964 t965)) = some r := H
          have A45 := Aside0.mk A450
          clear A450
          by_cases c46 : t979 = true
          · subst c46
            have H1 : (laws_FnExactExchangeWord.j0 k l1 l2 t960 t963 t969 t972 t975 t978 (t978 != t963) a0_0 l0_1 t964 t965) = some r := by rw [if_pos rfl] at H; exact H
            clear H
            have H := H1
            clear H1
            have H' := Aside0.mk H
            clear H
            obtain ⟨Ao47, co47, eo47⟩ := Kd.R_slice HO977.out
            subst eo47
            obtain ⟨Ao48, co48, eo48⟩ := Kd.R_slice HO962.out
            subst eo48
            go_wp2_with (first | ((with_reducible refine gate_callee (f := 23) rfl ?_); refine goesL_ (some 56) rfl rfl Try.func23 (by kernel_rfl) rfl #[.slice Ao47 t975.length co47, .slice Ao48 t960.length co48] rfl (by (try simp only [List.map_toArray, List.map_cons, List.map_nil]); first | done | rfl | (simp only [List.length_drop, List.length_take]; rfl)) ?_; (with_reducible refine (laws_eqIntS.calls k _ _ t975 _ _ t960 true _ ?side1 ?side2 ?side3 ?side4 A45.out).mono ?_); (case side1 => repeat (first | exact (Kd.R_reads' HO977.out).2.2 | (with_reducible refine Kd.C_alloc ?_ _) | (with_reducible refine Kd.C_drewN ?_ _) | (with_reducible refine Kd.C_drew ?_))); (case side2 => exact (Kd.R_reads' HO977.out).2.1); (case side3 => repeat (first | exact (Kd.R_reads' HO962.out).2.2 | (with_reducible refine Kd.C_alloc ?_ _) | (with_reducible refine Kd.C_drewN ?_ _) | (with_reducible refine Kd.C_drew ?_))); (case side4 => exact (Kd.R_reads' HO962.out).2.1); rintro e w' ⟨rfl, ⟨nd, rfl⟩⟩; refine ⟨_, rfl, ?_⟩))
            go_meet
            case rel => exact ⟨_, ((t978 != t963)), (by first | rfl | (simp; done) | (simp [*]; done)), H', ⟨by first | omega | exact Nat.le_refl _⟩, ⟨by (with_reducible repeat (first | apply Kd.R_alloc | apply Kd.R_drewN | apply Kd.R_drew)); exact Kd.R_mono HO962.out (fun _ hk => ⟨hk.1.1.2, ⟨hk.1.2, ⟨hk.2, hk.1.1.1.2⟩⟩⟩)⟩, ⟨by (with_reducible repeat (first | apply Kd.R_alloc | apply Kd.R_drewN | apply Kd.R_drew)); exact Kd.R_mono HO971.out (fun _ hk => ⟨hk.1.1.1.2, ⟨hk.1.2, ⟨hk.2, hk.1.1.2⟩⟩⟩)⟩, ⟨by (with_reducible repeat (first | apply Kd.R_alloc | apply Kd.R_drewN | apply Kd.R_drew)); exact Kd.R_mono HO974.out (fun _ hk => ⟨hk.1.1.1.2, ⟨hk.1.2, ⟨hk.2, hk.1.1.2⟩⟩⟩)⟩, ⟨by (with_reducible repeat (first | apply Kd.R_alloc | apply Kd.R_drewN | apply Kd.R_drew)); exact Kd.R_mono HO977.out (fun _ hk => ⟨hk.1.1.1.2, ⟨hk.1.2, ⟨hk.2, hk.1.1.2⟩⟩⟩)⟩, ⟨by (with_reducible repeat (first | apply Kd.R_alloc | apply Kd.R_drewN | apply Kd.R_drew)); exact Kd.R_mono HO967.out (fun _ hk => ⟨hk.1.1.1.2, ⟨hk.1.1.2, ⟨hk.1.2, hk.2⟩⟩⟩)⟩, ⟨by (with_reducible repeat (first | refine blk_drewN ?_ _ | refine blk_drew ?_ | refine blk_alloc ?_ _)); exact BK948.out⟩, ⟨by (with_reducible repeat (first | refine blk_drewN ?_ _ | refine blk_drew ?_ | refine blk_alloc ?_ _)); exact BK968.out⟩, ⟨by repeat (first | (with_reducible first | exact HB.out | apply below_alloc | apply pw_below_drewN | apply below_drew1 | refine below_set ?_ GE948.out | refine below_set ?_ GE968.out) | exact HB.out)⟩⟩
          · replace c46 := Bool.eq_false_iff.mpr c46
            subst c46
            have H1 : (laws_FnExactExchangeWord.j0 k l1 l2 t960 t963 t969 t972 t975 t978 true a0_0 l0_1 t964 t965) = some r := by rw [if_neg (show ¬ (false = true) by decide)] at H; exact H
            clear H
            have H := H1
            clear H1
            have H' := Aside0.mk H
            clear H
            obtain ⟨Ao49, co49, eo49⟩ := Kd.R_slice HO977.out
            subst eo49
            obtain ⟨Ao50, co50, eo50⟩ := Kd.R_slice HO962.out
            subst eo50
            go_wp2_with (first | ((with_reducible refine gate_callee (f := 23) rfl ?_); refine goesL_ (some 56) rfl rfl Try.func23 (by kernel_rfl) rfl #[.slice Ao49 t975.length co49, .slice Ao50 t960.length co50] rfl (by (try simp only [List.map_toArray, List.map_cons, List.map_nil]); first | done | rfl | (simp only [List.length_drop, List.length_take]; rfl)) ?_; (with_reducible refine (laws_eqIntS.calls k _ _ t975 _ _ t960 false _ ?side1 ?side2 ?side3 ?side4 A45.out).mono ?_); (case side1 => repeat (first | exact (Kd.R_reads' HO977.out).2.2 | (with_reducible refine Kd.C_alloc ?_ _) | (with_reducible refine Kd.C_drewN ?_ _) | (with_reducible refine Kd.C_drew ?_))); (case side2 => exact (Kd.R_reads' HO977.out).2.1); (case side3 => repeat (first | exact (Kd.R_reads' HO962.out).2.2 | (with_reducible refine Kd.C_alloc ?_ _) | (with_reducible refine Kd.C_drewN ?_ _) | (with_reducible refine Kd.C_drew ?_))); (case side4 => exact (Kd.R_reads' HO962.out).2.1); rintro e w' ⟨rfl, ⟨nd, rfl⟩⟩; refine ⟨_, rfl, ?_⟩))
            go_meet
            case rel => exact ⟨_, (true), (by first | rfl | (simp; done) | (simp [*]; done)), H', ⟨by first | omega | exact Nat.le_refl _⟩, ⟨by (with_reducible repeat (first | apply Kd.R_alloc | apply Kd.R_drewN | apply Kd.R_drew)); exact Kd.R_mono HO962.out (fun _ hk => ⟨hk.1.1.2, ⟨hk.1.2, ⟨hk.2, hk.1.1.1.2⟩⟩⟩)⟩, ⟨by (with_reducible repeat (first | apply Kd.R_alloc | apply Kd.R_drewN | apply Kd.R_drew)); exact Kd.R_mono HO971.out (fun _ hk => ⟨hk.1.1.1.2, ⟨hk.1.2, ⟨hk.2, hk.1.1.2⟩⟩⟩)⟩, ⟨by (with_reducible repeat (first | apply Kd.R_alloc | apply Kd.R_drewN | apply Kd.R_drew)); exact Kd.R_mono HO974.out (fun _ hk => ⟨hk.1.1.1.2, ⟨hk.1.2, ⟨hk.2, hk.1.1.2⟩⟩⟩)⟩, ⟨by (with_reducible repeat (first | apply Kd.R_alloc | apply Kd.R_drewN | apply Kd.R_drew)); exact Kd.R_mono HO977.out (fun _ hk => ⟨hk.1.1.1.2, ⟨hk.1.2, ⟨hk.2, hk.1.1.2⟩⟩⟩)⟩, ⟨by (with_reducible repeat (first | apply Kd.R_alloc | apply Kd.R_drewN | apply Kd.R_drew)); exact Kd.R_mono HO967.out (fun _ hk => ⟨hk.1.1.1.2, ⟨hk.1.1.2, ⟨hk.1.2, hk.2⟩⟩⟩)⟩, ⟨by (with_reducible repeat (first | refine blk_drewN ?_ _ | refine blk_drew ?_ | refine blk_alloc ?_ _)); exact BK948.out⟩, ⟨by (with_reducible repeat (first | refine blk_drewN ?_ _ | refine blk_drew ?_ | refine blk_alloc ?_ _)); exact BK968.out⟩, ⟨by repeat (first | (with_reducible first | exact HB.out | apply below_alloc | apply pw_below_drewN | apply below_drew1 | refine below_set ?_ GE948.out | refine below_set ?_ GE968.out) | exact HB.out)⟩⟩
        case rest =>
          clear HC21
          try clear c1
          try clear c2
          try clear p2
          try clear c3
          try clear c4
          try clear c4b0
          try clear c4b1
          try clear c5
          try clear c6
          try clear c6b0
          try clear c6b1
          try clear c9
          try clear c9b0
          try clear c11
          try clear c15
          try clear c17
          try clear c21
          try clear c23
          try clear c36
          try clear c46
          try clear c49
          try clear c50
          try clear hcz11_0
          try clear hcz11_1
          try clear hcz23_0
          try clear hcz23_1
          try clear hcz25_0
          try clear hcz25_1
          try clear hcz33_0
          try clear hcz33_1
          try clear hcz37_0
          try clear hcz37_1
          try clear hcz41_0
          try clear hcz41_1
          try clear hfz11_0
          try clear hfz11_1
          try clear hfz23_0
          try clear hfz23_1
          try clear hfz25_0
          try clear hfz25_1
          try clear hfz33_0
          try clear hfz33_1
          try clear hfz37_0
          try clear hfz37_1
          try clear hfz41_0
          try clear hfz41_1
          obtain ⟨kq, x62_20, rfl, HA, HJ20, HO_8, HO_11, HO_12, HO_13, HO_969001, BK948, BK968, HB⟩ := hcut
          cases kq with
          | zero => exact absurd HA.out (by simp [laws_FnExactExchangeWord.j0])
          | succ kj20 =>
            have H := HA.out
            clear HA
            simp only [laws_FnExactExchangeWord.j0] at H
            by_cases c51 : x62_20 = true
            · subst c51
              have H1 : (some false) = some r := by rw [if_pos rfl] at H; exact H
              clear H
              have H := H1
              clear H1
              obtain rfl := Option.some.inj H
              go_wp2
              go_ret
              exact ⟨by first | rfl | (simp [errW_none, errW_some] <;> rfl) | (simp [*, errW_none, errW_some] <;> rfl), by repeat (first | (with_reducible first | exact HB.out | apply below_alloc | apply pw_below_drewN | apply below_drew1 | refine below_set ?_ GE948.out | refine below_set ?_ GE968.out) | exact HB.out)⟩
            · replace c51 := Bool.eq_false_iff.mpr c51
              subst c51
              have H1 : ((laws_toSpace.f kj20 a0_0 l0_1).bind fun bt980 => ((laws_eqSpace.f kj20 t964 t965 bt980.1 bt980.2).bind fun t984 => (if t984 = true then ((laws_toIntS.f kj20 l1).bind fun t985 => ((laws_eqIntS.f kj20 t969 t985).bind fun t988 => (if t988 = true then ((laws_toIntS.f kj20 l2).bind fun t989 => ((laws_eqIntS.f kj20 t972 t989).bind fun t992 => (if t992 = true then ((laws_markSpace.f kj20 t964 t965 1).bind fun bt993 => ((laws_markIntS.f kj20 t969 bt993.1).bind fun bt995 => ((laws_markIntS.f kj20 t972 bt995.1).bind fun bt997 => (if bt997.1 < 0 then (laws_FnExactExchangeWord.j1 kj20 l1 l2 t960 t963 t975 true a0_0 l0_1) else ((laws_eqIntS.f kj20 t975 t960).bind fun t999 => (if t999 = true then (laws_FnExactExchangeWord.j1 kj20 l1 l2 t960 t963 t975 (t978 != t963) a0_0 l0_1) else (laws_FnExactExchangeWord.j1 kj20 l1 l2 t960 t963 t975 true a0_0 l0_1))))))) else (some false)))) else (some false)))) else (some false)))) = some r := by rw [if_neg (show ¬ (false = true) by decide)] at H; exact H
              clear H
              have H := H1
              clear H1
              replace H := Option.bind_eq_some_iff.mp H
              obtain ⟨⟨t980, t981⟩, A520, H⟩ := H
              replace H : ((laws_eqSpace.f kj20 t964 t965 t980 t981).bind fun t984 => (if t984 = true then ((laws_toIntS.f kj20 l1).bind fun t985 => ((laws_eqIntS.f kj20 t969 t985).bind fun t988 => (if t988 = true then ((laws_toIntS.f kj20 l2).bind fun t989 => ((laws_eqIntS.f kj20 t972 t989).bind fun t992 => (if t992 = true then ((laws_markSpace.f kj20 t964 t965 1).bind fun bt993 => ((laws_markIntS.f kj20 t969 bt993.1).bind fun bt995 => ((laws_markIntS.f kj20 t972 bt995.1).bind fun bt997 => (if bt997.1 < 0 then (laws_FnExactExchangeWord.j1 kj20 l1 l2 t960 t963 t975 true a0_0 l0_1) else ((laws_eqIntS.f kj20 t975 t960).bind fun t999 => (if t999 = true then (laws_FnExactExchangeWord.j1 kj20 l1 l2 t960 t963 t975 (t978 != t963) a0_0 l0_1) else (laws_FnExactExchangeWord.j1 kj20 l1 l2 t960 t963 t975 true a0_0 l0_1))))))) else (some false)))) else (some false)))) else (some false))) = some r := H
              have A52 := Aside0.mk A520
              clear A520
              replace H := Option.bind_eq_some_iff.mp H
              obtain ⟨t984, A530, H⟩ := H
              replace H : (if t984 = true then ((laws_toIntS.f kj20 l1).bind fun t985 => ((laws_eqIntS.f kj20 t969 t985).bind fun t988 => (if t988 = true then ((laws_toIntS.f kj20 l2).bind fun t989 => ((laws_eqIntS.f kj20 t972 t989).bind fun t992 => (if t992 = true then ((laws_markSpace.f kj20 t964 t965 1).bind fun bt993 => ((laws_markIntS.f kj20 t969 bt993.1).bind fun bt995 => ((laws_markIntS.f kj20 t972 bt995.1).bind fun bt997 => (if bt997.1 < 0 then (laws_FnExactExchangeWord.j1 kj20 l1 l2 t960 t963 t975 true a0_0 l0_1) else ((laws_eqIntS.f kj20 t975 t960).bind fun t999 => (if t999 = true then (laws_FnExactExchangeWord.j1 kj20 l1 l2 t960 t963 t975 (t978 != t963) a0_0 l0_1) else (laws_FnExactExchangeWord.j1 kj20 l1 l2 t960 t963 t975 true a0_0 l0_1))))))) else (some false)))) else (some false)))) else (some false)) = some r := H
              have A53 := Aside0.mk A530
              clear A530
              by_cases c54 : t984 = true
              · subst c54
                have H1 : ((laws_toIntS.f kj20 l1).bind fun t985 => ((laws_eqIntS.f kj20 t969 t985).bind fun t988 => (if t988 = true then ((laws_toIntS.f kj20 l2).bind fun t989 => ((laws_eqIntS.f kj20 t972 t989).bind fun t992 => (if t992 = true then ((laws_markSpace.f kj20 t964 t965 1).bind fun bt993 => ((laws_markIntS.f kj20 t969 bt993.1).bind fun bt995 => ((laws_markIntS.f kj20 t972 bt995.1).bind fun bt997 => (if bt997.1 < 0 then (laws_FnExactExchangeWord.j1 kj20 l1 l2 t960 t963 t975 true a0_0 l0_1) else ((laws_eqIntS.f kj20 t975 t960).bind fun t999 => (if t999 = true then (laws_FnExactExchangeWord.j1 kj20 l1 l2 t960 t963 t975 (t978 != t963) a0_0 l0_1) else (laws_FnExactExchangeWord.j1 kj20 l1 l2 t960 t963 t975 true a0_0 l0_1))))))) else (some false)))) else (some false)))) = some r := by rw [if_pos rfl] at H; exact H
                clear H
                have H := H1
                clear H1
                replace H := Option.bind_eq_some_iff.mp H
                obtain ⟨t985, A550, H⟩ := H
                replace H : ((laws_eqIntS.f kj20 t969 t985).bind fun t988 => (if t988 = true then ((laws_toIntS.f kj20 l2).bind fun t989 => ((laws_eqIntS.f kj20 t972 t989).bind fun t992 => (if t992 = true then ((laws_markSpace.f kj20 t964 t965 1).bind fun bt993 => ((laws_markIntS.f kj20 t969 bt993.1).bind fun bt995 => ((laws_markIntS.f kj20 t972 bt995.1).bind fun bt997 => (if bt997.1 < 0 then (laws_FnExactExchangeWord.j1 kj20 l1 l2 t960 t963 t975 true a0_0 l0_1) else ((laws_eqIntS.f kj20 t975 t960).bind fun t999 => (if t999 = true then (laws_FnExactExchangeWord.j1 kj20 l1 l2 t960 t963 t975 (t978 != t963) a0_0 l0_1) else (laws_FnExactExchangeWord.j1 kj20 l1 l2 t960 t963 t975 true a0_0 l0_1))))))) else (some false)))) else (some false))) = some r := H
                have A55 := Aside0.mk A550
                clear A550
                replace H := Option.bind_eq_some_iff.mp H
                obtain ⟨t988, A560, H⟩ := H
                replace H : (if t988 = true then ((laws_toIntS.f kj20 l2).bind fun t989 => ((laws_eqIntS.f kj20 t972 t989).bind fun t992 => (if t992 = true then ((laws_markSpace.f kj20 t964 t965 1).bind fun bt993 => ((laws_markIntS.f kj20 t969 bt993.1).bind fun bt995 => ((laws_markIntS.f kj20 t972 bt995.1).bind fun bt997 => (if bt997.1 < 0 then (laws_FnExactExchangeWord.j1 kj20 l1 l2 t960 t963 t975 true a0_0 l0_1) else ((laws_eqIntS.f kj20 t975 t960).bind fun t999 => (if t999 = true then (laws_FnExactExchangeWord.j1 kj20 l1 l2 t960 t963 t975 (t978 != t963) a0_0 l0_1) else (laws_FnExactExchangeWord.j1 kj20 l1 l2 t960 t963 t975 true a0_0 l0_1))))))) else (some false)))) else (some false)) = some r := H
                have A56 := Aside0.mk A560
                clear A560
                by_cases c57 : t988 = true
                · subst c57
                  have H1 : ((laws_toIntS.f kj20 l2).bind fun t989 => ((laws_eqIntS.f kj20 t972 t989).bind fun t992 => (if t992 = true then ((laws_markSpace.f kj20 t964 t965 1).bind fun bt993 => ((laws_markIntS.f kj20 t969 bt993.1).bind fun bt995 => ((laws_markIntS.f kj20 t972 bt995.1).bind fun bt997 => (if bt997.1 < 0 then (laws_FnExactExchangeWord.j1 kj20 l1 l2 t960 t963 t975 true a0_0 l0_1) else ((laws_eqIntS.f kj20 t975 t960).bind fun t999 => (if t999 = true then (laws_FnExactExchangeWord.j1 kj20 l1 l2 t960 t963 t975 (t978 != t963) a0_0 l0_1) else (laws_FnExactExchangeWord.j1 kj20 l1 l2 t960 t963 t975 true a0_0 l0_1))))))) else (some false)))) = some r := by rw [if_pos rfl] at H; exact H
                  clear H
                  have H := H1
                  clear H1
                  replace H := Option.bind_eq_some_iff.mp H
                  obtain ⟨t989, A580, H⟩ := H
                  replace H : ((laws_eqIntS.f kj20 t972 t989).bind fun t992 => (if t992 = true then ((laws_markSpace.f kj20 t964 t965 1).bind fun bt993 => ((laws_markIntS.f kj20 t969 bt993.1).bind fun bt995 => ((laws_markIntS.f kj20 t972 bt995.1).bind fun bt997 => (if bt997.1 < 0 then (laws_FnExactExchangeWord.j1 kj20 l1 l2 t960 t963 t975 true a0_0 l0_1) else ((laws_eqIntS.f kj20 t975 t960).bind fun t999 => (if t999 = true then (laws_FnExactExchangeWord.j1 kj20 l1 l2 t960 t963 t975 (t978 != t963) a0_0 l0_1) else (laws_FnExactExchangeWord.j1 kj20 l1 l2 t960 t963 t975 true a0_0 l0_1))))))) else (some false))) = some r := H
                  have A58 := Aside0.mk A580
                  clear A580
                  replace H := Option.bind_eq_some_iff.mp H
                  obtain ⟨t992, A590, H⟩ := H
                  replace H : (if t992 = true then ((laws_markSpace.f kj20 t964 t965 1).bind fun bt993 => ((laws_markIntS.f kj20 t969 bt993.1).bind fun bt995 => ((laws_markIntS.f kj20 t972 bt995.1).bind fun bt997 => (if bt997.1 < 0 then (laws_FnExactExchangeWord.j1 kj20 l1 l2 t960 t963 t975 true a0_0 l0_1) else ((laws_eqIntS.f kj20 t975 t960).bind fun t999 => (if t999 = true then (laws_FnExactExchangeWord.j1 kj20 l1 l2 t960 t963 t975 (t978 != t963) a0_0 l0_1) else (laws_FnExactExchangeWord.j1 kj20 l1 l2 t960 t963 t975 true a0_0 l0_1))))))) else (some false)) = some r := H
                  have A59 := Aside0.mk A590
                  clear A590
                  by_cases c60 : t992 = true
                  · subst c60
                    have H1 : ((laws_markSpace.f kj20 t964 t965 1).bind fun bt993 => ((laws_markIntS.f kj20 t969 bt993.1).bind fun bt995 => ((laws_markIntS.f kj20 t972 bt995.1).bind fun bt997 => (if bt997.1 < 0 then (laws_FnExactExchangeWord.j1 kj20 l1 l2 t960 t963 t975 true a0_0 l0_1) else ((laws_eqIntS.f kj20 t975 t960).bind fun t999 => (if t999 = true then (laws_FnExactExchangeWord.j1 kj20 l1 l2 t960 t963 t975 (t978 != t963) a0_0 l0_1) else (laws_FnExactExchangeWord.j1 kj20 l1 l2 t960 t963 t975 true a0_0 l0_1))))))) = some r := by rw [if_pos rfl] at H; exact H
                    clear H
                    have H := H1
                    clear H1
                    replace H := Option.bind_eq_some_iff.mp H
                    obtain ⟨⟨t993, t994⟩, A610, H⟩ := H
                    replace H : ((laws_markIntS.f kj20 t969 t993).bind fun bt995 => ((laws_markIntS.f kj20 t972 bt995.1).bind fun bt997 => (if bt997.1 < 0 then (laws_FnExactExchangeWord.j1 kj20 l1 l2 t960 t963 t975 true a0_0 l0_1) else ((laws_eqIntS.f kj20 t975 t960).bind fun t999 => (if t999 = true then (laws_FnExactExchangeWord.j1 kj20 l1 l2 t960 t963 t975 (t978 != t963) a0_0 l0_1) else (laws_FnExactExchangeWord.j1 kj20 l1 l2 t960 t963 t975 true a0_0 l0_1)))))) = some r := H
                    have A61 := Aside0.mk A610
                    clear A610
                    replace H := Option.bind_eq_some_iff.mp H
                    obtain ⟨⟨t995, t996⟩, A620, H⟩ := H
                    replace H : ((laws_markIntS.f kj20 t972 t995).bind fun bt997 => (if bt997.1 < 0 then (laws_FnExactExchangeWord.j1 kj20 l1 l2 t960 t963 t975 true a0_0 l0_1) else ((laws_eqIntS.f kj20 t975 t960).bind fun t999 => (if t999 = true then (laws_FnExactExchangeWord.j1 kj20 l1 l2 t960 t963 t975 (t978 != t963) a0_0 l0_1) else (laws_FnExactExchangeWord.j1 kj20 l1 l2 t960 t963 t975 true a0_0 l0_1))))) = some r := H
                    have A62 := Aside0.mk A620
                    clear A620
                    replace H := Option.bind_eq_some_iff.mp H
                    obtain ⟨⟨t997, t998⟩, A630, H⟩ := H
                    replace H : (if t997 < 0 then (laws_FnExactExchangeWord.j1 kj20 l1 l2 t960 t963 t975 true a0_0 l0_1) else ((laws_eqIntS.f kj20 t975 t960).bind fun t999 => (if t999 = true then (laws_FnExactExchangeWord.j1 kj20 l1 l2 t960 t963 t975 (t978 != t963) a0_0 l0_1) else (laws_FnExactExchangeWord.j1 kj20 l1 l2 t960 t963 t975 true a0_0 l0_1)))) = some r := H
                    have A63 := Aside0.mk A630
                    clear A630
                    have HC64 := Aside0.mk H
                    clear H
                    try go_wp2
                    have n0_ := Aside0.mk (Kd.R_drew HO_8.out)
                    have n1_ := Aside0.mk (Kd.R_drew HO_11.out)
                    have n2_ := Aside0.mk (Kd.R_drew HO_12.out)
                    have n3_ := Aside0.mk (Kd.R_drew HO_13.out)
                    have n4_ := Aside0.mk (Kd.R_drew HO_969001.out)
                    have n5_ := Aside0.mk (blk_drew BK948.out)
                    have n6_ := Aside0.mk (blk_drew BK968.out)
                    have n7_ := Aside0.mk (below_drew1 HB.out)
                    clear HO_8
                    clear HO_11
                    clear HO_12
                    clear HO_13
                    clear HO_969001
                    clear BK948
                    clear BK968
                    clear HB
                    have HO_8 := n0_
                    have HO_11 := n1_
                    have HO_12 := n2_
                    have HO_13 := n3_
                    have HO_969001 := n4_
                    have BK948 := n5_
                    have BK968 := n6_
                    have HB := n7_
                    clear n0_ n1_ n2_ n3_ n4_ n5_ n6_ n7_
                    refine start_ (n := 5) (S := fun w' => w'.cell? ⟨gb968, 0, none⟩ = some (.int .i64 t964) ∧ w'.cell? ⟨gb968, 1, none⟩ = some (.slice Ao38 t965.length co38) ∧ w'.cell? ⟨gb948, 0, none⟩ = some (.int .i64 a0_0) ∧ w'.cell? ⟨gb948, 1, none⟩ = some (.slice A0_1 l0_1.length c0_1)) (ds := []) #[false, false, false, false, false] (by kernel_rfl) rfl rfl ⟨(blk_cell BK968.out 0).trans rfl, (blk_cell BK968.out 1).trans rfl, (blk_cell BK948.out 0).trans rfl, (blk_cell BK948.out 1).trans rfl⟩ (fun hHeld => ?_)
                    generalize wc.drew = w65 at HO_8 HO_11 HO_12 HO_13 HO_969001 BK948 BK968 HB hHeld ⊢
                    refine take_ (i := 0) (N := some 63) (v := ?_) (a' := ?_) #[true, false, false, false, false] rfl rfl (by kernel_rfl) (fun _ _ _ h => h) (Or.inl ⟨by rfl, ?_⟩) hHeld ?_ ?_
                    rotate_left
                    · rintro w' ⟨s0, s1, s2, s3⟩
                      go_simp
                      with_reducible rfl
                    rotate_left
                    · simp only [Act.put, List.setIfInBounds_toArray, List.set_cons_zero, List.set_cons_succ, i64_w, i32_w]
                      rfl
                    refine take_ (i := 1) (N := some 64) (v := ?_) (a' := ?_) #[true, true, false, false, false] rfl rfl (by kernel_rfl) (fun _ _ _ h => h) (Or.inl ⟨by rfl, ?_⟩) hHeld ?_ ?_
                    rotate_left
                    · rintro w' ⟨s0, s1, s2, s3⟩
                      go_simp
                      with_reducible rfl
                    rotate_left
                    · simp only [Act.put, List.setIfInBounds_toArray, List.set_cons_zero, List.set_cons_succ, i64_w, i32_w]
                      rfl
                    refine one_ (i := 2) (N := some 65) #[true, true, true, false, false] rfl rfl (by kernel_rfl) (by decide) (fun K hK => ?_)
                    refine goes_ Try.func17 (by kernel_rfl) rfl #[.agg #[.int .i64 a0_0, .slice A0_1 l0_1.length c0_1]] (by rfl) rfl rfl (by (try simp only [List.map_toArray, List.map_cons, List.map_nil]); first | done | rfl | (simp only [List.length_drop, List.length_take]; rfl)) ?_
                    with_reducible refine (laws_toSpace.calls kj20 a0_0 _ _ l0_1 t980 t981 _ ?side1 ?side2 A52.out).mono ?_
                    (case side1 => repeat (first | exact (Kd.C_below HR0_1.out HB.out) | (with_reducible refine Kd.C_alloc ?_ _) | (with_reducible refine Kd.C_drewN ?_ _) | (with_reducible refine Kd.C_drew ?_)))
                    (case side2 => exact HC0_1.out)
                    rintro e w66 ⟨v982, rfl, ho0, hb⟩
                    refine ⟨_, rfl, ?_⟩
                    have n0_ := Aside0.mk (Kd.R_elder' (by (with_reducible repeat (first | apply Kd.R_alloc | apply Kd.R_drewN | apply Kd.R_drew)); exact HO_8.out) (Kd.R_base ho0) hb)
                    have n1_ := Aside0.mk (Kd.R_elder' (by (with_reducible repeat (first | apply Kd.R_alloc | apply Kd.R_drewN | apply Kd.R_drew)); exact HO_11.out) (Kd.R_base ho0) hb)
                    have n2_ := Aside0.mk (Kd.R_elder' (by (with_reducible repeat (first | apply Kd.R_alloc | apply Kd.R_drewN | apply Kd.R_drew)); exact HO_12.out) (Kd.R_base ho0) hb)
                    have n3_ := Aside0.mk (Kd.R_elder' (by (with_reducible repeat (first | apply Kd.R_alloc | apply Kd.R_drewN | apply Kd.R_drew)); exact HO_13.out) (Kd.R_base ho0) hb)
                    have n4_ := Aside0.mk (Kd.R_elder' (by (with_reducible repeat (first | apply Kd.R_alloc | apply Kd.R_drewN | apply Kd.R_drew)); exact HO_969001.out) (Kd.R_base ho0) hb)
                    have n5_ := Aside0.mk (Kd.R_lower (Kd.R_new' (Kd.R_new' (Kd.R_new' (Kd.R_new' (Kd.R_new' ho0 (Kd.R_lt (by (with_reducible repeat (first | apply Kd.R_alloc | apply Kd.R_drewN | apply Kd.R_drew)); exact HO_8.out))) (Kd.R_lt (by (with_reducible repeat (first | apply Kd.R_alloc | apply Kd.R_drewN | apply Kd.R_drew)); exact HO_11.out))) (Kd.R_lt (by (with_reducible repeat (first | apply Kd.R_alloc | apply Kd.R_drewN | apply Kd.R_drew)); exact HO_12.out))) (Kd.R_lt (by (with_reducible repeat (first | apply Kd.R_alloc | apply Kd.R_drewN | apply Kd.R_drew)); exact HO_13.out))) (Kd.R_lt (by (with_reducible repeat (first | apply Kd.R_alloc | apply Kd.R_drewN | apply Kd.R_drew)); exact HO_969001.out))) (below_size (by repeat (first | (with_reducible first | exact HB.out | apply below_alloc | apply pw_below_drewN | apply below_drew1 | refine below_set ?_ GE948.out | refine below_set ?_ GE968.out) | exact HB.out))))
                    have n6_ := Aside0.mk (blk_below (g := gb948) (o := .cells #[.int .i64 a0_0, .slice A0_1 l0_1.length c0_1] 24 (0, 0)) (by (with_reducible repeat (first | refine blk_drewN ?_ _ | refine blk_drew ?_ | refine blk_alloc ?_ _)); exact BK948.out) hb)
                    have n7_ := Aside0.mk (blk_below (g := gb968) (o := .cells #[.int .i64 t964, .slice Ao38 t965.length co38] 28 (0, 0)) (by (with_reducible repeat (first | refine blk_drewN ?_ _ | refine blk_drew ?_ | refine blk_alloc ?_ _)); exact BK968.out) hb)
                    have n8_ := Aside0.mk (below_step (by repeat (first | (with_reducible first | exact HB.out | apply below_alloc | apply pw_below_drewN | apply below_drew1 | refine below_set ?_ GE948.out | refine below_set ?_ GE968.out) | exact HB.out)) hb)
                    clear HO_8
                    clear HO_11
                    clear HO_12
                    clear HO_13
                    clear HO_969001
                    clear BK948
                    clear BK968
                    clear HB
                    have HO_8 := n0_
                    have HO_11 := n1_
                    have HO_12 := n2_
                    have HO_13 := n3_
                    have HO_969001 := n4_
                    have HO983 := n5_
                    have BK948 := n6_
                    have BK968 := n7_
                    have HB := n8_
                    clear n0_ n1_ n2_ n3_ n4_ n5_ n6_ n7_ n8_
                    (try clear hb)
                    (try clear hb2)
                    (try clear hk)
                    (try clear hi)
                    (try clear ho0)
                    obtain ⟨Ao67, co67, eo67⟩ := Kd.R_slice HO983.out
                    (first | subst eo67 | (injection eo67 with f1_ f2_ f3_; have f4_ := f1_.symm; have f5_ := f3_.symm; clear f1_ f2_ f3_; subst f4_; subst f5_))
                    refine hK.out _ _ ⟨(blk_cell BK968.out 0).trans rfl, (blk_cell BK968.out 1).trans rfl, (blk_cell BK948.out 0).trans rfl, (blk_cell BK948.out 1).trans rfl⟩ (fun hHeld => ?_)
                    clear hK K
                    refine norm_ (a' := ?_) ?_ ?_
                    rotate_left
                    · show Act.put _ (some 65) _ = _
                      simp only [Act.put, List.setIfInBounds_toArray, List.set_cons_zero, List.set_cons_succ, i64_w, i32_w]
                      rfl
                    refine one_ (i := 3) (N := some 66) #[true, true, true, true, false] rfl rfl (by kernel_rfl) (by decide) (fun K hK => ?_)
                    refine goes_ Try.func19 (by kernel_rfl) rfl #[.agg #[.int .i64 t964, .slice Ao38 t965.length co38], .agg #[.int .i64 t980, .slice Ao67 t981.length co67]] (by rfl) rfl rfl (by (try simp only [List.map_toArray, List.map_cons, List.map_nil]); first | done | rfl | (simp only [List.length_drop, List.length_take]; rfl)) ?_
                    with_reducible refine (laws_eqSpace.calls kj20 t964 _ _ t965 t980 _ _ t981 true _ ?side1 ?side2 ?side3 ?side4 A53.out).mono ?_
                    (case side1 => repeat (first | exact (Kd.R_reads' HO_969001.out).2.2 | (with_reducible refine Kd.C_alloc ?_ _) | (with_reducible refine Kd.C_drewN ?_ _) | (with_reducible refine Kd.C_drew ?_)))
                    (case side2 => exact (Kd.R_reads' HO_969001.out).2.1)
                    (case side3 => repeat (first | exact (Kd.R_reads' HO983.out).2.2 | (with_reducible refine Kd.C_alloc ?_ _) | (with_reducible refine Kd.C_drewN ?_ _) | (with_reducible refine Kd.C_drew ?_)))
                    (case side4 => exact (Kd.R_reads' HO983.out).2.1)
                    rintro e w68 ⟨rfl, hb⟩
                    refine ⟨_, rfl, ?_⟩
                    have n0_ := Aside0.mk (Kd.R_below (by (with_reducible repeat (first | apply Kd.R_alloc | apply Kd.R_drewN | apply Kd.R_drew)); exact HO_8.out) hb)
                    have n1_ := Aside0.mk (Kd.R_below (by (with_reducible repeat (first | apply Kd.R_alloc | apply Kd.R_drewN | apply Kd.R_drew)); exact HO_11.out) hb)
                    have n2_ := Aside0.mk (Kd.R_below (by (with_reducible repeat (first | apply Kd.R_alloc | apply Kd.R_drewN | apply Kd.R_drew)); exact HO_12.out) hb)
                    have n3_ := Aside0.mk (Kd.R_below (by (with_reducible repeat (first | apply Kd.R_alloc | apply Kd.R_drewN | apply Kd.R_drew)); exact HO_13.out) hb)
                    have n4_ := Aside0.mk (Kd.R_below (by (with_reducible repeat (first | apply Kd.R_alloc | apply Kd.R_drewN | apply Kd.R_drew)); exact HO_969001.out) hb)
                    have n5_ := Aside0.mk (Kd.R_below (by (with_reducible repeat (first | apply Kd.R_alloc | apply Kd.R_drewN | apply Kd.R_drew)); exact HO983.out) hb)
                    have n6_ := Aside0.mk (blk_below (g := gb948) (o := .cells #[.int .i64 a0_0, .slice A0_1 l0_1.length c0_1] 24 (0, 0)) (by (with_reducible repeat (first | refine blk_drewN ?_ _ | refine blk_drew ?_ | refine blk_alloc ?_ _)); exact BK948.out) hb)
                    have n7_ := Aside0.mk (blk_below (g := gb968) (o := .cells #[.int .i64 t964, .slice Ao38 t965.length co38] 28 (0, 0)) (by (with_reducible repeat (first | refine blk_drewN ?_ _ | refine blk_drew ?_ | refine blk_alloc ?_ _)); exact BK968.out) hb)
                    have n8_ := Aside0.mk (below_step (by repeat (first | (with_reducible first | exact HB.out | apply below_alloc | apply pw_below_drewN | apply below_drew1 | refine below_set ?_ GE948.out | refine below_set ?_ GE968.out) | exact HB.out)) hb)
                    clear HO_8
                    clear HO_11
                    clear HO_12
                    clear HO_13
                    clear HO_969001
                    clear HO983
                    clear BK948
                    clear BK968
                    clear HB
                    have HO_8 := n0_
                    have HO_11 := n1_
                    have HO_12 := n2_
                    have HO_13 := n3_
                    have HO_969001 := n4_
                    have HO983 := n5_
                    have BK948 := n6_
                    have BK968 := n7_
                    have HB := n8_
                    clear n0_ n1_ n2_ n3_ n4_ n5_ n6_ n7_ n8_
                    (try clear hb)
                    (try clear hb2)
                    (try clear hk)
                    (try clear hi)
                    refine hK.out _ _ ⟨(blk_cell BK968.out 0).trans rfl, (blk_cell BK968.out 1).trans rfl, (blk_cell BK948.out 0).trans rfl, (blk_cell BK948.out 1).trans rfl⟩ (fun hHeld => ?_)
                    clear hK K
                    refine norm_ (a' := ?_) ?_ ?_
                    rotate_left
                    · show Act.put _ (some 66) _ = _
                      simp only [Act.put, List.setIfInBounds_toArray, List.set_cons_zero, List.set_cons_succ, i64_w, i32_w]
                      rfl
                    refine pure_ (i := 4) (N := some 67) (v := ?_) (a' := ?_) #[true, true, true, true, true] rfl rfl (by kernel_rfl) (fun _ _ _ h => h) (Or.inl ⟨by rfl, ?_⟩) ?_ ?_
                    rotate_left
                    · intro w'
                      go_simp
                      with_reducible rfl
                    rotate_left
                    · simp only [Act.put, List.setIfInBounds_toArray, List.set_cons_zero, List.set_cons_succ, i64_w, i32_w]
                      rfl
                    refine done_ (by kernel_rfl) ?_
                    go_upto_region 26 with (first | ((with_reducible refine gate_callee (f := 21) rfl ?_); refine goesL_ (some 70) rfl rfl Try.func21 (by kernel_rfl) rfl #[.slice A1 l1.length c1] rfl (by (try simp only [List.map_toArray, List.map_cons, List.map_nil]); first | done | rfl | (simp only [List.length_drop, List.length_take]; rfl)) ?_; (with_reducible refine (laws_toIntS.calls kj20 _ _ l1 t985 _ ?side1 ?side2 A55.out).mono ?_); (case side1 => repeat (first | exact (Kd.C_below HR1.out HB.out) | (with_reducible refine Kd.C_alloc ?_ _) | (with_reducible refine Kd.C_drewN ?_ _) | (with_reducible refine Kd.C_drew ?_))); (case side2 => exact HC1.out); rintro e w69 ⟨v986, rfl, ho0, hb⟩; refine ⟨_, rfl, ?_⟩; have n0_ := Aside0.mk (Kd.R_elder' (by (with_reducible repeat (first | apply Kd.R_alloc | apply Kd.R_drewN | apply Kd.R_drew)); exact HO_8.out) (Kd.R_base ho0) hb); have n1_ := Aside0.mk (Kd.R_elder' (by (with_reducible repeat (first | apply Kd.R_alloc | apply Kd.R_drewN | apply Kd.R_drew)); exact HO_11.out) (Kd.R_base ho0) hb); have n2_ := Aside0.mk (Kd.R_elder' (by (with_reducible repeat (first | apply Kd.R_alloc | apply Kd.R_drewN | apply Kd.R_drew)); exact HO_12.out) (Kd.R_base ho0) hb); have n3_ := Aside0.mk (Kd.R_elder' (by (with_reducible repeat (first | apply Kd.R_alloc | apply Kd.R_drewN | apply Kd.R_drew)); exact HO_13.out) (Kd.R_base ho0) hb); have n4_ := Aside0.mk (Kd.R_elder' (by (with_reducible repeat (first | apply Kd.R_alloc | apply Kd.R_drewN | apply Kd.R_drew)); exact HO_969001.out) (Kd.R_base ho0) hb); have n5_ := Aside0.mk (Kd.R_elder' (by (with_reducible repeat (first | apply Kd.R_alloc | apply Kd.R_drewN | apply Kd.R_drew)); exact HO983.out) (Kd.R_base ho0) hb); have n6_ := Aside0.mk (Kd.R_lower (Kd.R_new' (Kd.R_new' (Kd.R_new' (Kd.R_new' (Kd.R_new' (Kd.R_new' ho0 (Kd.R_lt (by (with_reducible repeat (first | apply Kd.R_alloc | apply Kd.R_drewN | apply Kd.R_drew)); exact HO_8.out))) (Kd.R_lt (by (with_reducible repeat (first | apply Kd.R_alloc | apply Kd.R_drewN | apply Kd.R_drew)); exact HO_11.out))) (Kd.R_lt (by (with_reducible repeat (first | apply Kd.R_alloc | apply Kd.R_drewN | apply Kd.R_drew)); exact HO_12.out))) (Kd.R_lt (by (with_reducible repeat (first | apply Kd.R_alloc | apply Kd.R_drewN | apply Kd.R_drew)); exact HO_13.out))) (Kd.R_lt (by (with_reducible repeat (first | apply Kd.R_alloc | apply Kd.R_drewN | apply Kd.R_drew)); exact HO_969001.out))) (Kd.R_lt (by (with_reducible repeat (first | apply Kd.R_alloc | apply Kd.R_drewN | apply Kd.R_drew)); exact HO983.out))) (below_size (by repeat (first | (with_reducible first | exact HB.out | apply below_alloc | apply pw_below_drewN | apply below_drew1 | refine below_set ?_ GE948.out | refine below_set ?_ GE968.out) | exact HB.out)))); have n7_ := Aside0.mk (blk_below (g := gb948) (o := .cells #[.int .i64 a0_0, .slice A0_1 l0_1.length c0_1] 24 (0, 0)) (by (with_reducible repeat (first | refine blk_drewN ?_ _ | refine blk_drew ?_ | refine blk_alloc ?_ _)); exact BK948.out) hb); have n8_ := Aside0.mk (blk_below (g := gb968) (o := .cells #[.int .i64 t964, .slice Ao38 t965.length co38] 28 (0, 0)) (by (with_reducible repeat (first | refine blk_drewN ?_ _ | refine blk_drew ?_ | refine blk_alloc ?_ _)); exact BK968.out) hb); have n9_ := Aside0.mk (below_step (by repeat (first | (with_reducible first | exact HB.out | apply below_alloc | apply pw_below_drewN | apply below_drew1 | refine below_set ?_ GE948.out | refine below_set ?_ GE968.out) | exact HB.out)) hb); clear HO_8; clear HO_11; clear HO_12; clear HO_13; clear HO_969001; clear HO983; clear BK948; clear BK968; clear HB; have HO_8 := n0_; have HO_11 := n1_; have HO_12 := n2_; have HO_13 := n3_; have HO_969001 := n4_; have HO983 := n5_; have HO987 := n6_; have BK948 := n7_; have BK968 := n8_; have HB := n9_; clear n0_ n1_ n2_ n3_ n4_ n5_ n6_ n7_ n8_ n9_; (try clear hb); (try clear hb2); (try clear hk); (try clear hi); (try clear ho0); obtain ⟨Ao70, co70, eo70⟩ := Kd.R_slice HO987.out; subst eo70) | ((with_reducible refine gate_callee (f := 23) rfl ?_); refine goesL_ (some 71) rfl rfl Try.func23 (by kernel_rfl) rfl #[.slice Ao42 t969.length co42, .slice Ao70 t985.length co70] rfl (by (try simp only [List.map_toArray, List.map_cons, List.map_nil]); first | done | rfl | (simp only [List.length_drop, List.length_take]; rfl)) ?_; (with_reducible refine (laws_eqIntS.calls kj20 _ _ t969 _ _ t985 true _ ?side1 ?side2 ?side3 ?side4 A56.out).mono ?_); (case side1 => repeat (first | exact (Kd.R_reads' HO_11.out).2.2 | (with_reducible refine Kd.C_alloc ?_ _) | (with_reducible refine Kd.C_drewN ?_ _) | (with_reducible refine Kd.C_drew ?_))); (case side2 => exact (Kd.R_reads' HO_11.out).2.1); (case side3 => repeat (first | exact (Kd.R_reads' HO987.out).2.2 | (with_reducible refine Kd.C_alloc ?_ _) | (with_reducible refine Kd.C_drewN ?_ _) | (with_reducible refine Kd.C_drew ?_))); (case side4 => exact (Kd.R_reads' HO987.out).2.1); rintro e w' ⟨rfl, ⟨nd, rfl⟩⟩; refine ⟨_, rfl, ?_⟩) | ((with_reducible refine gate_callee (f := 21) rfl ?_); refine goesL_ (some 75) rfl rfl Try.func21 (by kernel_rfl) rfl #[.slice A2 l2.length c2] rfl (by (try simp only [List.map_toArray, List.map_cons, List.map_nil]); first | done | rfl | (simp only [List.length_drop, List.length_take]; rfl)) ?_; (with_reducible refine (laws_toIntS.calls kj20 _ _ l2 t989 _ ?side1 ?side2 A58.out).mono ?_); (case side1 => repeat (first | exact (Kd.C_below HR2.out (by repeat (first | (with_reducible first | exact HB.out | apply below_alloc | apply pw_below_drewN | apply below_drew1 | refine below_set ?_ GE948.out | refine below_set ?_ GE968.out) | exact HB.out))) | (with_reducible refine Kd.C_alloc ?_ _) | (with_reducible refine Kd.C_drewN ?_ _) | (with_reducible refine Kd.C_drew ?_))); (case side2 => exact HC2.out); rintro e w71 ⟨v990, rfl, ho0, hb⟩; refine ⟨_, rfl, ?_⟩; have n0_ := Aside0.mk (Kd.R_elder' (by (with_reducible repeat (first | apply Kd.R_alloc | apply Kd.R_drewN | apply Kd.R_drew)); exact HO_8.out) (Kd.R_base ho0) hb); have n1_ := Aside0.mk (Kd.R_elder' (by (with_reducible repeat (first | apply Kd.R_alloc | apply Kd.R_drewN | apply Kd.R_drew)); exact HO_11.out) (Kd.R_base ho0) hb); have n2_ := Aside0.mk (Kd.R_elder' (by (with_reducible repeat (first | apply Kd.R_alloc | apply Kd.R_drewN | apply Kd.R_drew)); exact HO_12.out) (Kd.R_base ho0) hb); have n3_ := Aside0.mk (Kd.R_elder' (by (with_reducible repeat (first | apply Kd.R_alloc | apply Kd.R_drewN | apply Kd.R_drew)); exact HO_13.out) (Kd.R_base ho0) hb); have n4_ := Aside0.mk (Kd.R_elder' (by (with_reducible repeat (first | apply Kd.R_alloc | apply Kd.R_drewN | apply Kd.R_drew)); exact HO_969001.out) (Kd.R_base ho0) hb); have n5_ := Aside0.mk (Kd.R_elder' (by (with_reducible repeat (first | apply Kd.R_alloc | apply Kd.R_drewN | apply Kd.R_drew)); exact HO983.out) (Kd.R_base ho0) hb); have n6_ := Aside0.mk (Kd.R_elder' (by (with_reducible repeat (first | apply Kd.R_alloc | apply Kd.R_drewN | apply Kd.R_drew)); exact HO987.out) (Kd.R_base ho0) hb); have n7_ := Aside0.mk (Kd.R_lower (Kd.R_new' (Kd.R_new' (Kd.R_new' (Kd.R_new' (Kd.R_new' (Kd.R_new' (Kd.R_new' ho0 (Kd.R_lt (by (with_reducible repeat (first | apply Kd.R_alloc | apply Kd.R_drewN | apply Kd.R_drew)); exact HO_8.out))) (Kd.R_lt (by (with_reducible repeat (first | apply Kd.R_alloc | apply Kd.R_drewN | apply Kd.R_drew)); exact HO_11.out))) (Kd.R_lt (by (with_reducible repeat (first | apply Kd.R_alloc | apply Kd.R_drewN | apply Kd.R_drew)); exact HO_12.out))) (Kd.R_lt (by (with_reducible repeat (first | apply Kd.R_alloc | apply Kd.R_drewN | apply Kd.R_drew)); exact HO_13.out))) (Kd.R_lt (by (with_reducible repeat (first | apply Kd.R_alloc | apply Kd.R_drewN | apply Kd.R_drew)); exact HO_969001.out))) (Kd.R_lt (by (with_reducible repeat (first | apply Kd.R_alloc | apply Kd.R_drewN | apply Kd.R_drew)); exact HO983.out))) (Kd.R_lt (by (with_reducible repeat (first | apply Kd.R_alloc | apply Kd.R_drewN | apply Kd.R_drew)); exact HO987.out))) (below_size (by repeat (first | (with_reducible first | exact HB.out | apply below_alloc | apply pw_below_drewN | apply below_drew1 | refine below_set ?_ GE948.out | refine below_set ?_ GE968.out) | exact HB.out)))); have n8_ := Aside0.mk (blk_below (g := gb948) (o := .cells #[.int .i64 a0_0, .slice A0_1 l0_1.length c0_1] 24 (0, 0)) (by (with_reducible repeat (first | refine blk_drewN ?_ _ | refine blk_drew ?_ | refine blk_alloc ?_ _)); exact BK948.out) hb); have n9_ := Aside0.mk (blk_below (g := gb968) (o := .cells #[.int .i64 t964, .slice Ao38 t965.length co38] 28 (0, 0)) (by (with_reducible repeat (first | refine blk_drewN ?_ _ | refine blk_drew ?_ | refine blk_alloc ?_ _)); exact BK968.out) hb); have n10_ := Aside0.mk (below_step (by repeat (first | (with_reducible first | exact HB.out | apply below_alloc | apply pw_below_drewN | apply below_drew1 | refine below_set ?_ GE948.out | refine below_set ?_ GE968.out) | exact HB.out)) hb); clear HO_8; clear HO_11; clear HO_12; clear HO_13; clear HO_969001; clear HO983; clear HO987; clear BK948; clear BK968; clear HB; have HO_8 := n0_; have HO_11 := n1_; have HO_12 := n2_; have HO_13 := n3_; have HO_969001 := n4_; have HO983 := n5_; have HO987 := n6_; have HO991 := n7_; have BK948 := n8_; have BK968 := n9_; have HB := n10_; clear n0_ n1_ n2_ n3_ n4_ n5_ n6_ n7_ n8_ n9_ n10_; (try clear hb); (try clear hb2); (try clear hk); (try clear hi); (try clear ho0); obtain ⟨Ao72, co72, eo72⟩ := Kd.R_slice HO991.out; subst eo72) | ((with_reducible refine gate_callee (f := 23) rfl ?_); refine goesL_ (some 76) rfl rfl Try.func23 (by kernel_rfl) rfl #[.slice Ao43 t972.length co43, .slice Ao72 t989.length co72] rfl (by (try simp only [List.map_toArray, List.map_cons, List.map_nil]); first | done | rfl | (simp only [List.length_drop, List.length_take]; rfl)) ?_; (with_reducible refine (laws_eqIntS.calls kj20 _ _ t972 _ _ t989 true _ ?side1 ?side2 ?side3 ?side4 A59.out).mono ?_); (case side1 => repeat (first | exact (Kd.R_reads' HO_12.out).2.2 | (with_reducible refine Kd.C_alloc ?_ _) | (with_reducible refine Kd.C_drewN ?_ _) | (with_reducible refine Kd.C_drew ?_))); (case side2 => exact (Kd.R_reads' HO_12.out).2.1); (case side3 => repeat (first | exact (Kd.R_reads' HO991.out).2.2 | (with_reducible refine Kd.C_alloc ?_ _) | (with_reducible refine Kd.C_drewN ?_ _) | (with_reducible refine Kd.C_drew ?_))); (case side4 => exact (Kd.R_reads' HO991.out).2.1); rintro e w' ⟨rfl, ⟨nd, rfl⟩⟩; refine ⟨_, rfl, ?_⟩; have hnb73 := NB968_948.out; have hnc73 := NB948_968.out; have hcz74_0 : w71.cell? ⟨gb968, 0, none⟩ = some (.int .i64 t964) := (blk_cell BK968.out 0).trans rfl; have hcz74_1 : w71.cell? ⟨gb968, 1, none⟩ = some (.slice Ao38 t965.length co38) := (blk_cell BK968.out 1).trans rfl; have hfz74_0 := blk_frozen BK968.out 0; have hfz74_1 := blk_frozen BK968.out 1) | ((with_reducible refine gate_callee (f := 25) rfl ?_); refine goesL_ (some 80) rfl rfl Try.func25 (by kernel_rfl) rfl #[.agg #[.int .i64 t964, .slice Ao38 t965.length co38], .int .i64 1] rfl (by (try simp only [List.map_toArray, List.map_cons, List.map_nil]); first | done | rfl | (simp only [List.length_drop, List.length_take]; rfl)) ?_; (with_reducible refine (laws_markSpace.calls kj20 t964 (fun k_ => some k_ = (.slice Ao38 t965.length co38 : Value).ownBlock) (.slice Ao38 t965.length co38) t965 1 t993 t994 w _ ?side1 ?side2 A61.out).mono ?_); (case side1 => repeat (first | (with_reducible first | exact HB.out | apply below_alloc | apply pw_below_drewN | apply below_drew1 | refine below_set ?_ GE948.out | refine below_set ?_ GE968.out) | exact HB.out)); (case side2 => exact Kd.R_tight rfl HO_969001.out); rintro e w75 ⟨rfl, hy0, hb, hkp⟩; refine ⟨_, rfl, ?_⟩; have n0_ := Aside0.mk (Kd.R_mono (ok' := fun k_ => some k_ ≠ (.slice Ao42 t969.length co42 : Value).ownBlock ∧ some k_ ≠ (.slice Ao43 t972.length co43 : Value).ownBlock ∧ some k_ ≠ (v976 : Value).ownBlock ∧ some k_ ≠ (.slice Ao38 t965.length co38 : Value).ownBlock ∧ some k_ ≠ (.slice Ao67 t981.length co67 : Value).ownBlock ∧ some k_ ≠ (.slice Ao70 t985.length co70 : Value).ownBlock ∧ some k_ ≠ (.slice Ao72 t989.length co72 : Value).ownBlock) (Kd.R_keptB (HO_8.out) hkp (fun k_ hk_ hs_ => (hk_.1.1.1.2.2.2) hs_)) (fun k_ hk_ => ⟨hk_.1.1.1.1.1, hk_.1.1.1.1.2.1, hk_.1.1.1.1.2.2.1, hk_.1.1.1.1.2.2.2, hk_.1.1.1.2, hk_.1.1.2, hk_.1.2⟩)); have n1_ := Aside0.mk (Kd.R_mono (ok' := fun k_ => some k_ ≠ (v961 : Value).ownBlock ∧ some k_ ≠ (.slice Ao43 t972.length co43 : Value).ownBlock ∧ some k_ ≠ (v976 : Value).ownBlock ∧ some k_ ≠ (.slice Ao38 t965.length co38 : Value).ownBlock ∧ some k_ ≠ (.slice Ao67 t981.length co67 : Value).ownBlock ∧ some k_ ≠ (.slice Ao70 t985.length co70 : Value).ownBlock ∧ some k_ ≠ (.slice Ao72 t989.length co72 : Value).ownBlock) (Kd.R_keptB (HO_11.out) hkp (fun k_ hk_ hs_ => (hk_.1.1.1.2.2.2) hs_)) (fun k_ hk_ => ⟨hk_.1.1.1.1.1, hk_.1.1.1.1.2.1, hk_.1.1.1.1.2.2.1, hk_.1.1.1.1.2.2.2, hk_.1.1.1.2, hk_.1.1.2, hk_.1.2⟩)); have n2_ := Aside0.mk (Kd.R_mono (ok' := fun k_ => some k_ ≠ (v961 : Value).ownBlock ∧ some k_ ≠ (.slice Ao42 t969.length co42 : Value).ownBlock ∧ some k_ ≠ (v976 : Value).ownBlock ∧ some k_ ≠ (.slice Ao38 t965.length co38 : Value).ownBlock ∧ some k_ ≠ (.slice Ao67 t981.length co67 : Value).ownBlock ∧ some k_ ≠ (.slice Ao70 t985.length co70 : Value).ownBlock ∧ some k_ ≠ (.slice Ao72 t989.length co72 : Value).ownBlock) (Kd.R_keptB (HO_12.out) hkp (fun k_ hk_ hs_ => (hk_.1.1.1.2.2.2) hs_)) (fun k_ hk_ => ⟨hk_.1.1.1.1.1, hk_.1.1.1.1.2.1, hk_.1.1.1.1.2.2.1, hk_.1.1.1.1.2.2.2, hk_.1.1.1.2, hk_.1.1.2, hk_.1.2⟩)); have n3_ := Aside0.mk (Kd.R_mono (ok' := fun k_ => some k_ ≠ (v961 : Value).ownBlock ∧ some k_ ≠ (.slice Ao42 t969.length co42 : Value).ownBlock ∧ some k_ ≠ (.slice Ao43 t972.length co43 : Value).ownBlock ∧ some k_ ≠ (.slice Ao38 t965.length co38 : Value).ownBlock ∧ some k_ ≠ (.slice Ao67 t981.length co67 : Value).ownBlock ∧ some k_ ≠ (.slice Ao70 t985.length co70 : Value).ownBlock ∧ some k_ ≠ (.slice Ao72 t989.length co72 : Value).ownBlock) (Kd.R_keptB (HO_13.out) hkp (fun k_ hk_ hs_ => (hk_.1.1.1.2.2.2) hs_)) (fun k_ hk_ => ⟨hk_.1.1.1.1.1, hk_.1.1.1.1.2.1, hk_.1.1.1.1.2.2.1, hk_.1.1.1.1.2.2.2, hk_.1.1.1.2, hk_.1.1.2, hk_.1.2⟩)); have n4_ := Aside0.mk (Kd.R_reok rfl hy0 (fun k_ e_ => HO_969001.out.1 k_ e_)); have n5_ := Aside0.mk (blk_kept (by (with_reducible repeat (first | refine blk_drewN ?_ _ | refine blk_drew ?_ | refine blk_alloc ?_ _)); exact BK948.out) hkp (fun hs_ => (fun e_ => (Kd.R_ne HO_969001.out BK948.out (by decide)) e_) hs_)); have n6_ := Aside0.mk (blk_kept (by (with_reducible repeat (first | refine blk_drewN ?_ _ | refine blk_drew ?_ | refine blk_alloc ?_ _)); exact BK968.out) hkp (fun hs_ => (fun e_ => (Kd.R_ne HO_969001.out BK968.out (by decide)) e_) hs_)); have n7_ := Aside0.mk (Kd.R_mono (ok' := fun k_ => some k_ ≠ (v961 : Value).ownBlock ∧ some k_ ≠ (.slice Ao42 t969.length co42 : Value).ownBlock ∧ some k_ ≠ (.slice Ao43 t972.length co43 : Value).ownBlock ∧ some k_ ≠ (v976 : Value).ownBlock ∧ some k_ ≠ (.slice Ao38 t965.length co38 : Value).ownBlock ∧ some k_ ≠ (.slice Ao70 t985.length co70 : Value).ownBlock ∧ some k_ ≠ (.slice Ao72 t989.length co72 : Value).ownBlock) (Kd.R_keptB (HO983.out) hkp (fun k_ hk_ hs_ => (hk_.1.1.2) hs_)) (fun k_ hk_ => ⟨hk_.1.1.1.1.1.1.1.2, hk_.1.1.1.1.1.1.2, hk_.1.1.1.1.1.2, hk_.1.1.1.1.2, hk_.1.1.1.2, hk_.1.1.2, hk_.1.2⟩)); have n8_ := Aside0.mk (Kd.R_mono (ok' := fun k_ => some k_ ≠ (v961 : Value).ownBlock ∧ some k_ ≠ (.slice Ao42 t969.length co42 : Value).ownBlock ∧ some k_ ≠ (.slice Ao43 t972.length co43 : Value).ownBlock ∧ some k_ ≠ (v976 : Value).ownBlock ∧ some k_ ≠ (.slice Ao38 t965.length co38 : Value).ownBlock ∧ some k_ ≠ (.slice Ao67 t981.length co67 : Value).ownBlock ∧ some k_ ≠ (.slice Ao72 t989.length co72 : Value).ownBlock) (Kd.R_keptB (HO987.out) hkp (fun k_ hk_ hs_ => (hk_.1.1.2) hs_)) (fun k_ hk_ => ⟨hk_.1.1.1.1.1.1.1.2, hk_.1.1.1.1.1.1.2, hk_.1.1.1.1.1.2, hk_.1.1.1.1.2, hk_.1.1.1.2, hk_.1.1.2, hk_.1.2⟩)); have n9_ := Aside0.mk (Kd.R_mono (ok' := fun k_ => some k_ ≠ (v961 : Value).ownBlock ∧ some k_ ≠ (.slice Ao42 t969.length co42 : Value).ownBlock ∧ some k_ ≠ (.slice Ao43 t972.length co43 : Value).ownBlock ∧ some k_ ≠ (v976 : Value).ownBlock ∧ some k_ ≠ (.slice Ao38 t965.length co38 : Value).ownBlock ∧ some k_ ≠ (.slice Ao67 t981.length co67 : Value).ownBlock ∧ some k_ ≠ (.slice Ao70 t985.length co70 : Value).ownBlock) (Kd.R_keptB (HO991.out) hkp (fun k_ hk_ hs_ => (hk_.1.1.2) hs_)) (fun k_ hk_ => ⟨hk_.1.1.1.1.1.1.1.2, hk_.1.1.1.1.1.1.2, hk_.1.1.1.1.1.2, hk_.1.1.1.1.2, hk_.1.1.1.2, hk_.1.1.2, hk_.1.2⟩)); have n10_ := Aside0.mk (hb); clear HO_8; clear HO_11; clear HO_12; clear HO_13; clear HO_969001; clear BK948; clear BK968; clear HO983; clear HO987; clear HO991; clear HB; have HO_8 := n0_; have HO_11 := n1_; have HO_12 := n2_; have HO_13 := n3_; have HO_969001 := n4_; have BK948 := n5_; have BK968 := n6_; have HO983 := n7_; have HO987 := n8_; have HO991 := n9_; have HB := n10_; clear n0_ n1_ n2_ n3_ n4_ n5_ n6_ n7_ n8_ n9_ n10_; (try clear hb); (try clear hkp); (try clear hy0)) | ((with_reducible refine gate_callee (f := 24) rfl ?_); refine goesL_ (some 83) rfl rfl Try.func24 (by kernel_rfl) rfl #[.slice Ao42 t969.length co42, .int .i64 t993] rfl (by (try simp only [List.map_toArray, List.map_cons, List.map_nil]); first | done | rfl | (simp only [List.length_drop, List.length_take]; rfl)) ?_; (with_reducible refine (laws_markIntS.calls kj20 (fun k_ => some k_ = (.slice Ao42 t969.length co42 : Value).ownBlock) (.slice Ao42 t969.length co42) t969 t993 t995 t996 w _ ?side1 ?side2 A62.out).mono ?_); (case side1 => repeat (first | (with_reducible first | exact HB.out | apply below_alloc | apply pw_below_drewN | apply below_drew1 | refine below_set ?_ GE948.out | refine below_set ?_ GE968.out) | exact HB.out)); (case side2 => exact Kd.R_tight rfl HO_11.out); rintro e w76 ⟨rfl, hy0, hb, hkp⟩; refine ⟨_, rfl, ?_⟩; have n0_ := Aside0.mk (Kd.R_mono (ok' := fun k_ => some k_ ≠ (.slice Ao42 t969.length co42 : Value).ownBlock ∧ some k_ ≠ (.slice Ao43 t972.length co43 : Value).ownBlock ∧ some k_ ≠ (v976 : Value).ownBlock ∧ some k_ ≠ (.slice Ao38 t965.length co38 : Value).ownBlock ∧ some k_ ≠ (.slice Ao67 t981.length co67 : Value).ownBlock ∧ some k_ ≠ (.slice Ao70 t985.length co70 : Value).ownBlock ∧ some k_ ≠ (.slice Ao72 t989.length co72 : Value).ownBlock) (Kd.R_keptB (HO_8.out) hkp (fun k_ hk_ hs_ => (hk_.1) hs_)) (fun k_ hk_ => ⟨hk_.1.1, hk_.1.2.1, hk_.1.2.2.1, hk_.1.2.2.2.1, hk_.1.2.2.2.2.1, hk_.1.2.2.2.2.2.1, hk_.1.2.2.2.2.2.2⟩)); have n1_ := Aside0.mk (Kd.R_reok rfl hy0 (fun k_ e_ => HO_11.out.1 k_ e_)); have n2_ := Aside0.mk (Kd.R_mono (ok' := fun k_ => some k_ ≠ (v961 : Value).ownBlock ∧ some k_ ≠ (.slice Ao42 t969.length co42 : Value).ownBlock ∧ some k_ ≠ (v976 : Value).ownBlock ∧ some k_ ≠ (.slice Ao38 t965.length co38 : Value).ownBlock ∧ some k_ ≠ (.slice Ao67 t981.length co67 : Value).ownBlock ∧ some k_ ≠ (.slice Ao70 t985.length co70 : Value).ownBlock ∧ some k_ ≠ (.slice Ao72 t989.length co72 : Value).ownBlock) (Kd.R_keptB (HO_12.out) hkp (fun k_ hk_ hs_ => (hk_.2.1) hs_)) (fun k_ hk_ => ⟨hk_.1.1, hk_.1.2.1, hk_.1.2.2.1, hk_.1.2.2.2.1, hk_.1.2.2.2.2.1, hk_.1.2.2.2.2.2.1, hk_.1.2.2.2.2.2.2⟩)); have n3_ := Aside0.mk (Kd.R_mono (ok' := fun k_ => some k_ ≠ (v961 : Value).ownBlock ∧ some k_ ≠ (.slice Ao42 t969.length co42 : Value).ownBlock ∧ some k_ ≠ (.slice Ao43 t972.length co43 : Value).ownBlock ∧ some k_ ≠ (.slice Ao38 t965.length co38 : Value).ownBlock ∧ some k_ ≠ (.slice Ao67 t981.length co67 : Value).ownBlock ∧ some k_ ≠ (.slice Ao70 t985.length co70 : Value).ownBlock ∧ some k_ ≠ (.slice Ao72 t989.length co72 : Value).ownBlock) (Kd.R_keptB (HO_13.out) hkp (fun k_ hk_ hs_ => (hk_.2.1) hs_)) (fun k_ hk_ => ⟨hk_.1.1, hk_.1.2.1, hk_.1.2.2.1, hk_.1.2.2.2.1, hk_.1.2.2.2.2.1, hk_.1.2.2.2.2.2.1, hk_.1.2.2.2.2.2.2⟩)); have n4_ := Aside0.mk (Kd.R_mono (ok' := fun k_ => some k_ ≠ (v961 : Value).ownBlock ∧ some k_ ≠ (.slice Ao42 t969.length co42 : Value).ownBlock ∧ some k_ ≠ (.slice Ao43 t972.length co43 : Value).ownBlock ∧ some k_ ≠ (v976 : Value).ownBlock ∧ some k_ ≠ (.slice Ao67 t981.length co67 : Value).ownBlock ∧ some k_ ≠ (.slice Ao70 t985.length co70 : Value).ownBlock ∧ some k_ ≠ (.slice Ao72 t989.length co72 : Value).ownBlock) (Kd.R_keptB (HO_969001.out) hkp (fun k_ hk_ hs_ => (hk_.1.1.1.2.1) hs_)) (fun k_ hk_ => ⟨hk_.1.1.1.1.1, hk_.1.1.1.1.2.1, hk_.1.1.1.1.2.2.1, hk_.1.1.1.1.2.2.2, hk_.1.1.1.2, hk_.1.1.2, hk_.1.2⟩)); have n5_ := Aside0.mk (blk_kept (by (with_reducible repeat (first | refine blk_drewN ?_ _ | refine blk_drew ?_ | refine blk_alloc ?_ _)); exact BK948.out) hkp (fun hs_ => (fun e_ => (Kd.R_ne HO_11.out BK948.out (by decide)) e_) hs_)); have n6_ := Aside0.mk (blk_kept (by (with_reducible repeat (first | refine blk_drewN ?_ _ | refine blk_drew ?_ | refine blk_alloc ?_ _)); exact BK968.out) hkp (fun hs_ => (fun e_ => (Kd.R_ne HO_11.out BK968.out (by decide)) e_) hs_)); have n7_ := Aside0.mk (Kd.R_mono (ok' := fun k_ => some k_ ≠ (v961 : Value).ownBlock ∧ some k_ ≠ (.slice Ao42 t969.length co42 : Value).ownBlock ∧ some k_ ≠ (.slice Ao43 t972.length co43 : Value).ownBlock ∧ some k_ ≠ (v976 : Value).ownBlock ∧ some k_ ≠ (.slice Ao38 t965.length co38 : Value).ownBlock ∧ some k_ ≠ (.slice Ao70 t985.length co70 : Value).ownBlock ∧ some k_ ≠ (.slice Ao72 t989.length co72 : Value).ownBlock) (Kd.R_keptB (HO983.out) hkp (fun k_ hk_ hs_ => (hk_.2.1) hs_)) (fun k_ hk_ => ⟨hk_.1.1, hk_.1.2.1, hk_.1.2.2.1, hk_.1.2.2.2.1, hk_.1.2.2.2.2.1, hk_.1.2.2.2.2.2.1, hk_.1.2.2.2.2.2.2⟩)); have n8_ := Aside0.mk (Kd.R_mono (ok' := fun k_ => some k_ ≠ (v961 : Value).ownBlock ∧ some k_ ≠ (.slice Ao42 t969.length co42 : Value).ownBlock ∧ some k_ ≠ (.slice Ao43 t972.length co43 : Value).ownBlock ∧ some k_ ≠ (v976 : Value).ownBlock ∧ some k_ ≠ (.slice Ao38 t965.length co38 : Value).ownBlock ∧ some k_ ≠ (.slice Ao67 t981.length co67 : Value).ownBlock ∧ some k_ ≠ (.slice Ao72 t989.length co72 : Value).ownBlock) (Kd.R_keptB (HO987.out) hkp (fun k_ hk_ hs_ => (hk_.2.1) hs_)) (fun k_ hk_ => ⟨hk_.1.1, hk_.1.2.1, hk_.1.2.2.1, hk_.1.2.2.2.1, hk_.1.2.2.2.2.1, hk_.1.2.2.2.2.2.1, hk_.1.2.2.2.2.2.2⟩)); have n9_ := Aside0.mk (Kd.R_mono (ok' := fun k_ => some k_ ≠ (v961 : Value).ownBlock ∧ some k_ ≠ (.slice Ao42 t969.length co42 : Value).ownBlock ∧ some k_ ≠ (.slice Ao43 t972.length co43 : Value).ownBlock ∧ some k_ ≠ (v976 : Value).ownBlock ∧ some k_ ≠ (.slice Ao38 t965.length co38 : Value).ownBlock ∧ some k_ ≠ (.slice Ao67 t981.length co67 : Value).ownBlock ∧ some k_ ≠ (.slice Ao70 t985.length co70 : Value).ownBlock) (Kd.R_keptB (HO991.out) hkp (fun k_ hk_ hs_ => (hk_.2.1) hs_)) (fun k_ hk_ => ⟨hk_.1.1, hk_.1.2.1, hk_.1.2.2.1, hk_.1.2.2.2.1, hk_.1.2.2.2.2.1, hk_.1.2.2.2.2.2.1, hk_.1.2.2.2.2.2.2⟩)); have n10_ := Aside0.mk (hb); clear HO_8; clear HO_11; clear HO_12; clear HO_13; clear HO_969001; clear BK948; clear BK968; clear HO983; clear HO987; clear HO991; clear HB; have HO_8 := n0_; have HO_11 := n1_; have HO_12 := n2_; have HO_13 := n3_; have HO_969001 := n4_; have BK948 := n5_; have BK968 := n6_; have HO983 := n7_; have HO987 := n8_; have HO991 := n9_; have HB := n10_; clear n0_ n1_ n2_ n3_ n4_ n5_ n6_ n7_ n8_ n9_ n10_; (try clear hb); (try clear hkp); (try clear hy0)) | ((with_reducible refine gate_callee (f := 24) rfl ?_); refine goesL_ (some 86) rfl rfl Try.func24 (by kernel_rfl) rfl #[.slice Ao43 t972.length co43, .int .i64 t995] rfl (by (try simp only [List.map_toArray, List.map_cons, List.map_nil]); first | done | rfl | (simp only [List.length_drop, List.length_take]; rfl)) ?_; (with_reducible refine (laws_markIntS.calls kj20 (fun k_ => some k_ = (.slice Ao43 t972.length co43 : Value).ownBlock) (.slice Ao43 t972.length co43) t972 t995 t997 t998 w _ ?side1 ?side2 A63.out).mono ?_); (case side1 => repeat (first | (with_reducible first | exact HB.out | apply below_alloc | apply pw_below_drewN | apply below_drew1 | refine below_set ?_ GE948.out | refine below_set ?_ GE968.out) | exact HB.out)); (case side2 => exact Kd.R_tight rfl HO_12.out); rintro e w77 ⟨rfl, hy0, hb, hkp⟩; refine ⟨_, rfl, ?_⟩; have n0_ := Aside0.mk (Kd.R_mono (ok' := fun k_ => some k_ ≠ (.slice Ao42 t969.length co42 : Value).ownBlock ∧ some k_ ≠ (.slice Ao43 t972.length co43 : Value).ownBlock ∧ some k_ ≠ (v976 : Value).ownBlock ∧ some k_ ≠ (.slice Ao38 t965.length co38 : Value).ownBlock ∧ some k_ ≠ (.slice Ao67 t981.length co67 : Value).ownBlock ∧ some k_ ≠ (.slice Ao70 t985.length co70 : Value).ownBlock ∧ some k_ ≠ (.slice Ao72 t989.length co72 : Value).ownBlock) (Kd.R_keptB (HO_8.out) hkp (fun k_ hk_ hs_ => (hk_.2.1) hs_)) (fun k_ hk_ => ⟨hk_.1.1, hk_.1.2.1, hk_.1.2.2.1, hk_.1.2.2.2.1, hk_.1.2.2.2.2.1, hk_.1.2.2.2.2.2.1, hk_.1.2.2.2.2.2.2⟩)); have n1_ := Aside0.mk (Kd.R_mono (ok' := fun k_ => some k_ ≠ (v961 : Value).ownBlock ∧ some k_ ≠ (.slice Ao43 t972.length co43 : Value).ownBlock ∧ some k_ ≠ (v976 : Value).ownBlock ∧ some k_ ≠ (.slice Ao38 t965.length co38 : Value).ownBlock ∧ some k_ ≠ (.slice Ao67 t981.length co67 : Value).ownBlock ∧ some k_ ≠ (.slice Ao70 t985.length co70 : Value).ownBlock ∧ some k_ ≠ (.slice Ao72 t989.length co72 : Value).ownBlock) (Kd.R_keptB (HO_11.out) hkp (fun k_ hk_ hs_ => (hk_.2.1) hs_)) (fun k_ hk_ => ⟨hk_.1.1, hk_.1.2.1, hk_.1.2.2.1, hk_.1.2.2.2.1, hk_.1.2.2.2.2.1, hk_.1.2.2.2.2.2.1, hk_.1.2.2.2.2.2.2⟩)); have n2_ := Aside0.mk (Kd.R_reok rfl hy0 (fun k_ e_ => HO_12.out.1 k_ e_)); have n3_ := Aside0.mk (Kd.R_mono (ok' := fun k_ => some k_ ≠ (v961 : Value).ownBlock ∧ some k_ ≠ (.slice Ao42 t969.length co42 : Value).ownBlock ∧ some k_ ≠ (.slice Ao43 t972.length co43 : Value).ownBlock ∧ some k_ ≠ (.slice Ao38 t965.length co38 : Value).ownBlock ∧ some k_ ≠ (.slice Ao67 t981.length co67 : Value).ownBlock ∧ some k_ ≠ (.slice Ao70 t985.length co70 : Value).ownBlock ∧ some k_ ≠ (.slice Ao72 t989.length co72 : Value).ownBlock) (Kd.R_keptB (HO_13.out) hkp (fun k_ hk_ hs_ => (hk_.2.2.1) hs_)) (fun k_ hk_ => ⟨hk_.1.1, hk_.1.2.1, hk_.1.2.2.1, hk_.1.2.2.2.1, hk_.1.2.2.2.2.1, hk_.1.2.2.2.2.2.1, hk_.1.2.2.2.2.2.2⟩)); have n4_ := Aside0.mk (Kd.R_mono (ok' := fun k_ => some k_ ≠ (v961 : Value).ownBlock ∧ some k_ ≠ (.slice Ao42 t969.length co42 : Value).ownBlock ∧ some k_ ≠ (.slice Ao43 t972.length co43 : Value).ownBlock ∧ some k_ ≠ (v976 : Value).ownBlock ∧ some k_ ≠ (.slice Ao67 t981.length co67 : Value).ownBlock ∧ some k_ ≠ (.slice Ao70 t985.length co70 : Value).ownBlock ∧ some k_ ≠ (.slice Ao72 t989.length co72 : Value).ownBlock) (Kd.R_keptB (HO_969001.out) hkp (fun k_ hk_ hs_ => (hk_.2.2.1) hs_)) (fun k_ hk_ => ⟨hk_.1.1, hk_.1.2.1, hk_.1.2.2.1, hk_.1.2.2.2.1, hk_.1.2.2.2.2.1, hk_.1.2.2.2.2.2.1, hk_.1.2.2.2.2.2.2⟩)); have n5_ := Aside0.mk (blk_kept (by (with_reducible repeat (first | refine blk_drewN ?_ _ | refine blk_drew ?_ | refine blk_alloc ?_ _)); exact BK948.out) hkp (fun hs_ => (fun e_ => (Kd.R_ne HO_12.out BK948.out (by decide)) e_) hs_)); have n6_ := Aside0.mk (blk_kept (by (with_reducible repeat (first | refine blk_drewN ?_ _ | refine blk_drew ?_ | refine blk_alloc ?_ _)); exact BK968.out) hkp (fun hs_ => (fun e_ => (Kd.R_ne HO_12.out BK968.out (by decide)) e_) hs_)); have n7_ := Aside0.mk (Kd.R_mono (ok' := fun k_ => some k_ ≠ (v961 : Value).ownBlock ∧ some k_ ≠ (.slice Ao42 t969.length co42 : Value).ownBlock ∧ some k_ ≠ (.slice Ao43 t972.length co43 : Value).ownBlock ∧ some k_ ≠ (v976 : Value).ownBlock ∧ some k_ ≠ (.slice Ao38 t965.length co38 : Value).ownBlock ∧ some k_ ≠ (.slice Ao70 t985.length co70 : Value).ownBlock ∧ some k_ ≠ (.slice Ao72 t989.length co72 : Value).ownBlock) (Kd.R_keptB (HO983.out) hkp (fun k_ hk_ hs_ => (hk_.2.2.1) hs_)) (fun k_ hk_ => ⟨hk_.1.1, hk_.1.2.1, hk_.1.2.2.1, hk_.1.2.2.2.1, hk_.1.2.2.2.2.1, hk_.1.2.2.2.2.2.1, hk_.1.2.2.2.2.2.2⟩)); have n8_ := Aside0.mk (Kd.R_mono (ok' := fun k_ => some k_ ≠ (v961 : Value).ownBlock ∧ some k_ ≠ (.slice Ao42 t969.length co42 : Value).ownBlock ∧ some k_ ≠ (.slice Ao43 t972.length co43 : Value).ownBlock ∧ some k_ ≠ (v976 : Value).ownBlock ∧ some k_ ≠ (.slice Ao38 t965.length co38 : Value).ownBlock ∧ some k_ ≠ (.slice Ao67 t981.length co67 : Value).ownBlock ∧ some k_ ≠ (.slice Ao72 t989.length co72 : Value).ownBlock) (Kd.R_keptB (HO987.out) hkp (fun k_ hk_ hs_ => (hk_.2.2.1) hs_)) (fun k_ hk_ => ⟨hk_.1.1, hk_.1.2.1, hk_.1.2.2.1, hk_.1.2.2.2.1, hk_.1.2.2.2.2.1, hk_.1.2.2.2.2.2.1, hk_.1.2.2.2.2.2.2⟩)); have n9_ := Aside0.mk (Kd.R_mono (ok' := fun k_ => some k_ ≠ (v961 : Value).ownBlock ∧ some k_ ≠ (.slice Ao42 t969.length co42 : Value).ownBlock ∧ some k_ ≠ (.slice Ao43 t972.length co43 : Value).ownBlock ∧ some k_ ≠ (v976 : Value).ownBlock ∧ some k_ ≠ (.slice Ao38 t965.length co38 : Value).ownBlock ∧ some k_ ≠ (.slice Ao67 t981.length co67 : Value).ownBlock ∧ some k_ ≠ (.slice Ao70 t985.length co70 : Value).ownBlock) (Kd.R_keptB (HO991.out) hkp (fun k_ hk_ hs_ => (hk_.2.2.1) hs_)) (fun k_ hk_ => ⟨hk_.1.1, hk_.1.2.1, hk_.1.2.2.1, hk_.1.2.2.2.1, hk_.1.2.2.2.2.1, hk_.1.2.2.2.2.2.1, hk_.1.2.2.2.2.2.2⟩)); have n10_ := Aside0.mk (hb); clear HO_8; clear HO_11; clear HO_12; clear HO_13; clear HO_969001; clear BK948; clear BK968; clear HO983; clear HO987; clear HO991; clear HB; have HO_8 := n0_; have HO_11 := n1_; have HO_12 := n2_; have HO_13 := n3_; have HO_969001 := n4_; have BK948 := n5_; have BK968 := n6_; have HO983 := n7_; have HO987 := n8_; have HO991 := n9_; have HB := n10_; clear n0_ n1_ n2_ n3_ n4_ n5_ n6_ n7_ n8_ n9_ n10_; (try clear hb); (try clear hkp); (try clear hy0)))
                    (try simp only [Act.put, List.setIfInBounds_toArray, List.set_cons_zero, List.set_cons_succ])
                    go_cut [99] (fun v99 wc => ∃ (kq : Nat) (x99_63 : Bool), v99 = .bool x99_63 ∧ Aside0 (laws_FnExactExchangeWord.j1 kq l1 l2 t960 t963 t975 x99_63 a0_0 l0_1 = some r) ∧ Aside0 (kq ≤ kj20) ∧ Aside0 (Kd.R (Kd.int .i64) 3 wc w.heap.size (fun k_ => some k_ ≠ (v976 : Value).ownBlock ∧ some k_ ≠ ((.slice Ao38 t965.length co38) : Value).ownBlock) v961 t960) ∧ Aside0 (Kd.R (Kd.int .i64) 3 wc w.heap.size (fun k_ => some k_ ≠ (v961 : Value).ownBlock ∧ some k_ ≠ ((.slice Ao38 t965.length co38) : Value).ownBlock) v976 t975) ∧ Aside0 (Kd.R (Kd.int .i64) 3 wc w.heap.size (fun k_ => some k_ ≠ (v961 : Value).ownBlock ∧ some k_ ≠ (v976 : Value).ownBlock) (.slice Ao38 t965.length co38) t994) ∧ Aside0 (wc.heap[gb948]? = some (.cells #[.int .i64 a0_0, (.slice A0_1 l0_1.length c0_1)] 24 (0, 0))) ∧ Aside0 (wc.heap[gb968]? = some (.cells #[.int .i64 t964, (.slice Ao38 t965.length co38)] 28 (0, 0))) ∧ Aside0 (Below w.heap.size w wc))
                    case first =>
                      have H := HC64.out
                      clear HC64
                      by_cases c78 : t997 < 0
                      · rw [if_pos c78] at H
                        have c78b0 : decide (t997 < 0) = true := decide_eq_true c78
                        clear c78
                        (first | rw [c78b0] | (simp only [i64_w, i32_w]; rw [c78b0]) | skip)
                        have H' := Aside0.mk H
                        clear H
                        go_wp2
                        go_meet
                        case rel => exact ⟨_, (true), (by first | rfl | (simp; done) | (simp [*]; done)), H', ⟨by have := HJ20.out; first | omega | exact Nat.le_refl _⟩, ⟨by (with_reducible repeat (first | apply Kd.R_alloc | apply Kd.R_drewN | apply Kd.R_drew)); exact Kd.R_mono HO_8.out (fun _ hk => ⟨hk.2.2.1, hk.2.2.2.1⟩)⟩, ⟨by (with_reducible repeat (first | apply Kd.R_alloc | apply Kd.R_drewN | apply Kd.R_drew)); exact Kd.R_mono HO_13.out (fun _ hk => ⟨hk.1, hk.2.2.2.1⟩)⟩, ⟨by (with_reducible repeat (first | apply Kd.R_alloc | apply Kd.R_drewN | apply Kd.R_drew)); exact Kd.R_mono HO_969001.out (fun _ hk => ⟨hk.1, hk.2.2.2.1⟩)⟩, ⟨by (with_reducible repeat (first | refine blk_drewN ?_ _ | refine blk_drew ?_ | refine blk_alloc ?_ _)); exact BK948.out⟩, ⟨by (with_reducible repeat (first | refine blk_drewN ?_ _ | refine blk_drew ?_ | refine blk_alloc ?_ _)); exact BK968.out⟩, ⟨by repeat (first | (with_reducible first | exact HB.out | apply below_alloc | apply pw_below_drewN | apply below_drew1 | refine below_set ?_ GE948.out | refine below_set ?_ GE968.out) | exact HB.out)⟩⟩
                      · rw [if_neg c78] at H
                        have c78b0 : decide (t997 < 0) = false := decide_eq_false c78
                        clear c78
                        (first | rw [c78b0] | (simp only [i64_w, i32_w]; rw [c78b0]) | skip)
                        replace H := Option.bind_eq_some_iff.mp H
                        obtain ⟨t999, A790, H⟩ := H
                        replace H : (if t999 = true then (laws_FnExactExchangeWord.j1 kj20 l1 l2 t960 t963 t975 (t978 != t963) a0_0 l0_1) else (laws_FnExactExchangeWord.j1 kj20 l1 l2 t960 t963 t975 true a0_0 l0_1)) = some r := H
                        have A79 := Aside0.mk A790
                        clear A790
                        by_cases c80 : t999 = true
                        · subst c80
                          have H1 : (laws_FnExactExchangeWord.j1 kj20 l1 l2 t960 t963 t975 (t978 != t963) a0_0 l0_1) = some r := by rw [if_pos rfl] at H; exact H
                          clear H
                          have H := H1
                          clear H1
                          have H' := Aside0.mk H
                          clear H
                          obtain ⟨Ao81, co81, eo81⟩ := Kd.R_slice HO_13.out
                          subst eo81
                          obtain ⟨Ao82, co82, eo82⟩ := Kd.R_slice HO_8.out
                          subst eo82
                          go_wp2_with (first | (go_at_call 23; (with_reducible refine (laws_eqIntS.calls kj20 _ _ t975 _ _ t960 true _ ?side1 ?side2 ?side3 ?side4 A79.out).mono ?_); (case side1 => repeat (first | exact (Kd.R_reads' HO_13.out).2.2 | (with_reducible refine Kd.C_alloc ?_ _) | (with_reducible refine Kd.C_drewN ?_ _) | (with_reducible refine Kd.C_drew ?_))); (case side2 => exact (Kd.R_reads' HO_13.out).2.1); (case side3 => repeat (first | exact (Kd.R_reads' HO_8.out).2.2 | (with_reducible refine Kd.C_alloc ?_ _) | (with_reducible refine Kd.C_drewN ?_ _) | (with_reducible refine Kd.C_drew ?_))); (case side4 => exact (Kd.R_reads' HO_8.out).2.1); rintro e w' ⟨rfl, ⟨nd, rfl⟩⟩))
                          go_meet
                          case rel => exact ⟨_, ((t978 != t963)), (by first | rfl | (simp; done) | (simp [*]; done)), H', ⟨by have := HJ20.out; first | omega | exact Nat.le_refl _⟩, ⟨by (with_reducible repeat (first | apply Kd.R_alloc | apply Kd.R_drewN | apply Kd.R_drew)); exact Kd.R_mono HO_8.out (fun _ hk => ⟨hk.2.2.1, hk.2.2.2.1⟩)⟩, ⟨by (with_reducible repeat (first | apply Kd.R_alloc | apply Kd.R_drewN | apply Kd.R_drew)); exact Kd.R_mono HO_13.out (fun _ hk => ⟨hk.1, hk.2.2.2.1⟩)⟩, ⟨by (with_reducible repeat (first | apply Kd.R_alloc | apply Kd.R_drewN | apply Kd.R_drew)); exact Kd.R_mono HO_969001.out (fun _ hk => ⟨hk.1, hk.2.2.2.1⟩)⟩, ⟨by (with_reducible repeat (first | refine blk_drewN ?_ _ | refine blk_drew ?_ | refine blk_alloc ?_ _)); exact BK948.out⟩, ⟨by (with_reducible repeat (first | refine blk_drewN ?_ _ | refine blk_drew ?_ | refine blk_alloc ?_ _)); exact BK968.out⟩, ⟨by repeat (first | (with_reducible first | exact HB.out | apply below_alloc | apply pw_below_drewN | apply below_drew1 | refine below_set ?_ GE948.out | refine below_set ?_ GE968.out) | exact HB.out)⟩⟩
                        · replace c80 := Bool.eq_false_iff.mpr c80
                          subst c80
                          have H1 : (laws_FnExactExchangeWord.j1 kj20 l1 l2 t960 t963 t975 true a0_0 l0_1) = some r := by rw [if_neg (show ¬ (false = true) by decide)] at H; exact H
                          clear H
                          have H := H1
                          clear H1
                          have H' := Aside0.mk H
                          clear H
                          obtain ⟨Ao83, co83, eo83⟩ := Kd.R_slice HO_13.out
                          subst eo83
                          obtain ⟨Ao84, co84, eo84⟩ := Kd.R_slice HO_8.out
                          subst eo84
                          go_wp2_with (first | (go_at_call 23; (with_reducible refine (laws_eqIntS.calls kj20 _ _ t975 _ _ t960 false _ ?side1 ?side2 ?side3 ?side4 A79.out).mono ?_); (case side1 => repeat (first | exact (Kd.R_reads' HO_13.out).2.2 | (with_reducible refine Kd.C_alloc ?_ _) | (with_reducible refine Kd.C_drewN ?_ _) | (with_reducible refine Kd.C_drew ?_))); (case side2 => exact (Kd.R_reads' HO_13.out).2.1); (case side3 => repeat (first | exact (Kd.R_reads' HO_8.out).2.2 | (with_reducible refine Kd.C_alloc ?_ _) | (with_reducible refine Kd.C_drewN ?_ _) | (with_reducible refine Kd.C_drew ?_))); (case side4 => exact (Kd.R_reads' HO_8.out).2.1); rintro e w' ⟨rfl, ⟨nd, rfl⟩⟩))
                          go_meet
                          case rel => exact ⟨_, (true), (by first | rfl | (simp; done) | (simp [*]; done)), H', ⟨by have := HJ20.out; first | omega | exact Nat.le_refl _⟩, ⟨by (with_reducible repeat (first | apply Kd.R_alloc | apply Kd.R_drewN | apply Kd.R_drew)); exact Kd.R_mono HO_8.out (fun _ hk => ⟨hk.2.2.1, hk.2.2.2.1⟩)⟩, ⟨by (with_reducible repeat (first | apply Kd.R_alloc | apply Kd.R_drewN | apply Kd.R_drew)); exact Kd.R_mono HO_13.out (fun _ hk => ⟨hk.1, hk.2.2.2.1⟩)⟩, ⟨by (with_reducible repeat (first | apply Kd.R_alloc | apply Kd.R_drewN | apply Kd.R_drew)); exact Kd.R_mono HO_969001.out (fun _ hk => ⟨hk.1, hk.2.2.2.1⟩)⟩, ⟨by (with_reducible repeat (first | refine blk_drewN ?_ _ | refine blk_drew ?_ | refine blk_alloc ?_ _)); exact BK948.out⟩, ⟨by (with_reducible repeat (first | refine blk_drewN ?_ _ | refine blk_drew ?_ | refine blk_alloc ?_ _)); exact BK968.out⟩, ⟨by repeat (first | (with_reducible first | exact HB.out | apply below_alloc | apply pw_below_drewN | apply below_drew1 | refine below_set ?_ GE948.out | refine below_set ?_ GE968.out) | exact HB.out)⟩⟩
                    case rest =>
                      clear HC64
                      try clear c1
                      try clear c2
                      try clear p2
                      try clear c3
                      try clear c4
                      try clear c4b0
                      try clear c4b1
                      try clear c5
                      try clear c6
                      try clear c6b0
                      try clear c6b1
                      try clear c7
                      try clear c8
                      try clear c9
                      try clear c9b0
                      try clear c11
                      try clear c15
                      try clear c17
                      try clear c19
                      try clear c21
                      try clear c23
                      try clear c24
                      try clear c25
                      try clear c36
                      try clear c46
                      try clear c49
                      try clear c50
                      try clear c51
                      try clear c54
                      try clear c57
                      try clear c60
                      try clear c73
                      try clear c78
                      try clear c78b0
                      try clear c80
                      try clear hcz11_0
                      try clear hcz11_1
                      try clear hcz23_0
                      try clear hcz23_1
                      try clear hcz25_0
                      try clear hcz25_1
                      try clear hcz33_0
                      try clear hcz33_1
                      try clear hcz37_0
                      try clear hcz37_1
                      try clear hcz41_0
                      try clear hcz41_1
                      try clear hcz74_0
                      try clear hcz74_1
                      try clear hfz11_0
                      try clear hfz11_1
                      try clear hfz23_0
                      try clear hfz23_1
                      try clear hfz25_0
                      try clear hfz25_1
                      try clear hfz33_0
                      try clear hfz33_1
                      try clear hfz37_0
                      try clear hfz37_1
                      try clear hfz41_0
                      try clear hfz41_1
                      try clear hfz74_0
                      try clear hfz74_1
                      try clear p2
                      obtain ⟨kq, x99_63, rfl, HA, HJ63, HO_8, HO_13, HO_969001, BK948, BK968, HB⟩ := hcut
                      have hl969001_63 := (Kd.R_reads' HO_969001.out).1
                      rw [hl969001_63] at HO_969001
                      (try simp only [hl969001_63])
                      (try simp only [hl969001_63] at BK948)
                      (try simp only [hl969001_63] at BK968)
                      (try simp only [hl969001_63] at HO_8)
                      (try simp only [hl969001_63] at HO_13)
                      cases kq with
                      | zero => exact absurd HA.out (by simp [laws_FnExactExchangeWord.j1])
                      | succ kj63 =>
                        have H := HA.out
                        clear HA
                        simp only [laws_FnExactExchangeWord.j1] at H
                        by_cases c85 : x99_63 = true
                        · subst c85
                          have H1 : (some false) = some r := by rw [if_pos rfl] at H; exact H
                          clear H
                          have H := H1
                          clear H1
                          obtain rfl := Option.some.inj H
                          go_wp2
                          go_ret
                          exact ⟨by first | rfl | (simp [errW_none, errW_some] <;> rfl) | (simp [*, errW_none, errW_some] <;> rfl), by repeat (first | (with_reducible first | exact HB.out | apply below_alloc | apply pw_below_drewN | apply below_drew1 | refine below_set ?_ GE948.out | refine below_set ?_ GE968.out) | exact HB.out)⟩
                        · replace c85 := Bool.eq_false_iff.mpr c85
                          subst c85
                          have H1 : ((laws_markIntS.f kj63 t975 1).bind fun bt1000 => ((laws_heldIntS.f kj63 bt1000.2 1).bind fun t1002 => (if t1002 < 0 then (some false) else (if t1002 = bt1000.1 then ((laws_toSpace.f kj63 a0_0 l0_1).bind fun bt1003 => ((laws_toIntS.f kj63 l1).bind fun t1007 => ((laws_toIntS.f kj63 l2).bind fun t1010 => ((impl_ExchangeWord.f kj63 bt1003.1 bt1003.2 t1007 t1010).bind fun bt1013 => ((laws_eqIntS.f kj63 bt1013.1 t960).bind fun t1017 => (if t1017 = true then (laws_FnExactExchangeWord.j2 kj63 bt1000.2 bt1000.1 (bt1013.2 != t963)) else (laws_FnExactExchangeWord.j2 kj63 bt1000.2 bt1000.1 true))))))) else (some false))))) = some r := by rw [if_neg (show ¬ (false = true) by decide)] at H; exact H
                          clear H
                          have H := H1
                          clear H1
                          replace H := Option.bind_eq_some_iff.mp H
                          obtain ⟨⟨t1000, t1001⟩, A860, H⟩ := H
                          replace H : ((laws_heldIntS.f kj63 t1001 1).bind fun t1002 => (if t1002 < 0 then (some false) else (if t1002 = t1000 then ((laws_toSpace.f kj63 a0_0 l0_1).bind fun bt1003 => ((laws_toIntS.f kj63 l1).bind fun t1007 => ((laws_toIntS.f kj63 l2).bind fun t1010 => ((impl_ExchangeWord.f kj63 bt1003.1 bt1003.2 t1007 t1010).bind fun bt1013 => ((laws_eqIntS.f kj63 bt1013.1 t960).bind fun t1017 => (if t1017 = true then (laws_FnExactExchangeWord.j2 kj63 t1001 t1000 (bt1013.2 != t963)) else (laws_FnExactExchangeWord.j2 kj63 t1001 t1000 true))))))) else (some false)))) = some r := H
                          have A86 := Aside0.mk A860
                          clear A860
                          replace H := Option.bind_eq_some_iff.mp H
                          obtain ⟨t1002, A870, H⟩ := H
                          replace H : (if t1002 < 0 then (some false) else (if t1002 = t1000 then ((laws_toSpace.f kj63 a0_0 l0_1).bind fun bt1003 => ((laws_toIntS.f kj63 l1).bind fun t1007 => ((laws_toIntS.f kj63 l2).bind fun t1010 => ((impl_ExchangeWord.f kj63 bt1003.1 bt1003.2 t1007 t1010).bind fun bt1013 => ((laws_eqIntS.f kj63 bt1013.1 t960).bind fun t1017 => (if t1017 = true then (laws_FnExactExchangeWord.j2 kj63 t1001 t1000 (bt1013.2 != t963)) else (laws_FnExactExchangeWord.j2 kj63 t1001 t1000 true))))))) else (some false))) = some r := H
                          have A87 := Aside0.mk A870
                          clear A870
                          by_cases c88 : t1002 < 0
                          · rw [if_pos c88] at H
                            have c88b0 : decide (t1002 < 0) = true := decide_eq_true c88
                            clear c88
                            obtain rfl := Option.some.inj H
                            obtain ⟨Ao89, co89, eo89⟩ := Kd.R_slice HO_13.out
                            subst eo89
                            go_wp2_with (first | ((with_reducible refine gate_callee (f := 24) rfl ?_); refine goesL_ (some 102) rfl rfl Try.func24 (by kernel_rfl) rfl #[.slice Ao89 t975.length co89, .int .i64 1] rfl (by (try simp only [List.map_toArray, List.map_cons, List.map_nil]); first | done | rfl | (simp only [List.length_drop, List.length_take]; rfl)) ?_; (with_reducible refine (laws_markIntS.calls kj63 (fun k_ => some k_ = (.slice Ao89 t975.length co89 : Value).ownBlock) (.slice Ao89 t975.length co89) t975 1 t1000 t1001 w _ ?side1 ?side2 A86.out).mono ?_); (case side1 => repeat (first | (with_reducible first | exact HB.out | apply below_alloc | apply pw_below_drewN | apply below_drew1 | refine below_set ?_ GE948.out | refine below_set ?_ GE968.out) | exact HB.out)); (case side2 => exact Kd.R_tight rfl HO_13.out); rintro e w90 ⟨rfl, hy0, hb, hkp⟩; refine ⟨_, rfl, ?_⟩; have n0_ := Aside0.mk (Kd.R_mono (ok' := fun k_ => some k_ ≠ (.slice Ao89 t975.length co89 : Value).ownBlock ∧ some k_ ≠ (.slice Ao38 t994.length co38 : Value).ownBlock) (Kd.R_keptB (HO_8.out) hkp (fun k_ hk_ hs_ => (hk_.1) hs_)) (fun k_ hk_ => ⟨hk_.1.1, hk_.1.2⟩)); have n1_ := Aside0.mk (Kd.R_reok rfl hy0 (fun k_ e_ => HO_13.out.1 k_ e_)); have n2_ := Aside0.mk (Kd.R_mono (ok' := fun k_ => some k_ ≠ (v961 : Value).ownBlock ∧ some k_ ≠ (.slice Ao89 t975.length co89 : Value).ownBlock) (Kd.R_keptB (HO_969001.out) hkp (fun k_ hk_ hs_ => (hk_.2) hs_)) (fun k_ hk_ => ⟨hk_.1.1, hk_.1.2⟩)); have n3_ := Aside0.mk (blk_kept (by (with_reducible repeat (first | refine blk_drewN ?_ _ | refine blk_drew ?_ | refine blk_alloc ?_ _)); exact BK948.out) hkp (fun hs_ => (fun e_ => (Kd.R_ne HO_13.out BK948.out (by decide)) e_) hs_)); have n4_ := Aside0.mk (blk_kept (by (with_reducible repeat (first | refine blk_drewN ?_ _ | refine blk_drew ?_ | refine blk_alloc ?_ _)); exact BK968.out) hkp (fun hs_ => (fun e_ => (Kd.R_ne HO_13.out BK968.out (by decide)) e_) hs_)); have n5_ := Aside0.mk (hb); clear HO_8; clear HO_13; clear HO_969001; clear BK948; clear BK968; clear HB; have HO_8 := n0_; have HO_13 := n1_; have HO_969001 := n2_; have BK948 := n3_; have BK968 := n4_; have HB := n5_; clear n0_ n1_ n2_ n3_ n4_ n5_; (try clear hb); (try clear hkp); (try clear hy0)) | ((with_reducible refine gate_callee (f := 34) rfl ?_); refine goesL_ (some 105) rfl rfl Try.func34 (by kernel_rfl) rfl #[.slice Ao89 t1001.length co89, .int .i64 1] rfl (by (try simp only [List.map_toArray, List.map_cons, List.map_nil]); first | done | (rw [show t1001.length = t975.length from (Kd.R_reads' HO_13.out).1.symm] <;> rfl) | rfl | (simp only [List.length_drop, List.length_take]; rfl)) ?_; (with_reducible refine (laws_heldIntS.calls kj63 _ _ t1001 1 t1002 _ ?side1 ?side2 A87.out).mono ?_); (case side1 => repeat (first | exact (Kd.R_reads' HO_13.out).2.2 | (with_reducible refine Kd.C_alloc ?_ _) | (with_reducible refine Kd.C_drewN ?_ _) | (with_reducible refine Kd.C_drew ?_))); (case side2 => rw [show t1001.length = t975.length from (Kd.R_reads' HO_13.out).1.symm]; exact (Kd.R_reads' HO_13.out).2.1); rintro e w' ⟨rfl, ⟨nd, rfl⟩⟩; refine ⟨_, rfl, ?_⟩))
                            go_ret
                            exact ⟨by first | rfl | (simp [errW_none, errW_some] <;> rfl) | (simp [*, errW_none, errW_some] <;> rfl), by repeat (first | (with_reducible first | exact HB.out | apply below_alloc | apply pw_below_drewN | apply below_drew1 | refine below_set ?_ GE948.out | refine below_set ?_ GE968.out) | exact HB.out)⟩
                          · rw [if_neg c88] at H
                            have c88b0 : decide (t1002 < 0) = false := decide_eq_false c88
                            clear c88
                            by_cases c91 : t1002 = t1000
                            · rw [if_pos c91] at H
                              have c91b0 : (t1002 == t1000) = true := beq_iff_eq.mpr c91
                              have c91b1 : (t1002 != t1000) = false := bne_eq_false_iff_eq.mpr c91
                              clear c91
                              replace H := Option.bind_eq_some_iff.mp H
                              obtain ⟨⟨t1003, t1004⟩, A920, H⟩ := H
                              replace H : ((laws_toIntS.f kj63 l1).bind fun t1007 => ((laws_toIntS.f kj63 l2).bind fun t1010 => ((impl_ExchangeWord.f kj63 t1003 t1004 t1007 t1010).bind fun bt1013 => ((laws_eqIntS.f kj63 bt1013.1 t960).bind fun t1017 => (if t1017 = true then (laws_FnExactExchangeWord.j2 kj63 t1001 t1000 (bt1013.2 != t963)) else (laws_FnExactExchangeWord.j2 kj63 t1001 t1000 true)))))) = some r := H
                              have A92 := Aside0.mk A920
                              clear A920
                              replace H := Option.bind_eq_some_iff.mp H
                              obtain ⟨t1007, A930, H⟩ := H
                              replace H : ((laws_toIntS.f kj63 l2).bind fun t1010 => ((impl_ExchangeWord.f kj63 t1003 t1004 t1007 t1010).bind fun bt1013 => ((laws_eqIntS.f kj63 bt1013.1 t960).bind fun t1017 => (if t1017 = true then (laws_FnExactExchangeWord.j2 kj63 t1001 t1000 (bt1013.2 != t963)) else (laws_FnExactExchangeWord.j2 kj63 t1001 t1000 true))))) = some r := H
                              have A93 := Aside0.mk A930
                              clear A930
                              replace H := Option.bind_eq_some_iff.mp H
                              obtain ⟨t1010, A940, H⟩ := H
                              replace H : ((impl_ExchangeWord.f kj63 t1003 t1004 t1007 t1010).bind fun bt1013 => ((laws_eqIntS.f kj63 bt1013.1 t960).bind fun t1017 => (if t1017 = true then (laws_FnExactExchangeWord.j2 kj63 t1001 t1000 (bt1013.2 != t963)) else (laws_FnExactExchangeWord.j2 kj63 t1001 t1000 true)))) = some r := H
                              have A94 := Aside0.mk A940
                              clear A940
                              replace H := Option.bind_eq_some_iff.mp H
                              obtain ⟨⟨t1013, t1016⟩, A950, H⟩ := H
                              replace H : ((laws_eqIntS.f kj63 t1013 t960).bind fun t1017 => (if t1017 = true then (laws_FnExactExchangeWord.j2 kj63 t1001 t1000 (t1016 != t963)) else (laws_FnExactExchangeWord.j2 kj63 t1001 t1000 true))) = some r := H
                              have A95 := Aside0.mk A950
                              clear A950
                              have HC96 := Aside0.mk H
                              clear H
                              obtain ⟨Ao97, co97, eo97⟩ := Kd.R_slice HO_13.out
                              subst eo97
                              go_upto_region 37 with (first | ((with_reducible refine gate_callee (f := 24) rfl ?_); refine goesL_ (some 102) rfl rfl Try.func24 (by kernel_rfl) rfl #[.slice Ao97 t975.length co97, .int .i64 1] rfl (by (try simp only [List.map_toArray, List.map_cons, List.map_nil]); first | done | rfl | (simp only [List.length_drop, List.length_take]; rfl)) ?_; (with_reducible refine (laws_markIntS.calls kj63 (fun k_ => some k_ = (.slice Ao97 t975.length co97 : Value).ownBlock) (.slice Ao97 t975.length co97) t975 1 t1000 t1001 w _ ?side1 ?side2 A86.out).mono ?_); (case side1 => repeat (first | (with_reducible first | exact HB.out | apply below_alloc | apply pw_below_drewN | apply below_drew1 | refine below_set ?_ GE948.out | refine below_set ?_ GE968.out) | exact HB.out)); (case side2 => exact Kd.R_tight rfl HO_13.out); rintro e w98 ⟨rfl, hy0, hb, hkp⟩; refine ⟨_, rfl, ?_⟩; have n0_ := Aside0.mk (Kd.R_mono (ok' := fun k_ => some k_ ≠ (.slice Ao97 t975.length co97 : Value).ownBlock ∧ some k_ ≠ (.slice Ao38 t994.length co38 : Value).ownBlock) (Kd.R_keptB (HO_8.out) hkp (fun k_ hk_ hs_ => (hk_.1) hs_)) (fun k_ hk_ => ⟨hk_.1.1, hk_.1.2⟩)); have n1_ := Aside0.mk (Kd.R_reok rfl hy0 (fun k_ e_ => HO_13.out.1 k_ e_)); have n2_ := Aside0.mk (Kd.R_mono (ok' := fun k_ => some k_ ≠ (v961 : Value).ownBlock ∧ some k_ ≠ (.slice Ao97 t975.length co97 : Value).ownBlock) (Kd.R_keptB (HO_969001.out) hkp (fun k_ hk_ hs_ => (hk_.2) hs_)) (fun k_ hk_ => ⟨hk_.1.1, hk_.1.2⟩)); have n3_ := Aside0.mk (blk_kept (by (with_reducible repeat (first | refine blk_drewN ?_ _ | refine blk_drew ?_ | refine blk_alloc ?_ _)); exact BK948.out) hkp (fun hs_ => (fun e_ => (Kd.R_ne HO_13.out BK948.out (by decide)) e_) hs_)); have n4_ := Aside0.mk (blk_kept (by (with_reducible repeat (first | refine blk_drewN ?_ _ | refine blk_drew ?_ | refine blk_alloc ?_ _)); exact BK968.out) hkp (fun hs_ => (fun e_ => (Kd.R_ne HO_13.out BK968.out (by decide)) e_) hs_)); have n5_ := Aside0.mk (hb); clear HO_8; clear HO_13; clear HO_969001; clear BK948; clear BK968; clear HB; have HO_8 := n0_; have HO_13 := n1_; have HO_969001 := n2_; have BK948 := n3_; have BK968 := n4_; have HB := n5_; clear n0_ n1_ n2_ n3_ n4_ n5_; (try clear hb); (try clear hkp); (try clear hy0)) | ((with_reducible refine gate_callee (f := 34) rfl ?_); refine goesL_ (some 105) rfl rfl Try.func34 (by kernel_rfl) rfl #[.slice Ao97 t1001.length co97, .int .i64 1] rfl (by (try simp only [List.map_toArray, List.map_cons, List.map_nil]); first | done | (rw [show t1001.length = t975.length from (Kd.R_reads' HO_13.out).1.symm] <;> rfl) | rfl | (simp only [List.length_drop, List.length_take]; rfl)) ?_; (with_reducible refine (laws_heldIntS.calls kj63 _ _ t1001 1 t1002 _ ?side1 ?side2 A87.out).mono ?_); (case side1 => repeat (first | exact (Kd.R_reads' HO_13.out).2.2 | (with_reducible refine Kd.C_alloc ?_ _) | (with_reducible refine Kd.C_drewN ?_ _) | (with_reducible refine Kd.C_drew ?_))); (case side2 => rw [show t1001.length = t975.length from (Kd.R_reads' HO_13.out).1.symm]; exact (Kd.R_reads' HO_13.out).2.1); rintro e w' ⟨rfl, ⟨nd, rfl⟩⟩; refine ⟨_, rfl, ?_⟩; have hnb99 := NB948_968.out; have hnc99 := NB968_948.out; have hcz100_0 : w98.cell? ⟨gb948, 0, none⟩ = some (.int .i64 a0_0) := (blk_cell BK948.out 0).trans rfl; have hcz100_1 : w98.cell? ⟨gb948, 1, none⟩ = some (.slice A0_1 l0_1.length c0_1) := (blk_cell BK948.out 1).trans rfl; have hfz100_0 := blk_frozen BK948.out 0; have hfz100_1 := blk_frozen BK948.out 1) | ((with_reducible refine gate_callee (f := 17) rfl ?_); refine goesL_ (some 113) rfl rfl Try.func17 (by kernel_rfl) rfl #[.agg #[.int .i64 a0_0, .slice A0_1 l0_1.length c0_1]] rfl (by (try simp only [List.map_toArray, List.map_cons, List.map_nil]); first | done | rfl | (simp only [List.length_drop, List.length_take]; rfl)) ?_; (with_reducible refine (laws_toSpace.calls kj63 a0_0 _ _ l0_1 t1003 t1004 _ ?side1 ?side2 A92.out).mono ?_); (case side1 => repeat (first | exact (Kd.C_below HR0_1.out (by repeat (first | (with_reducible first | exact HB.out | apply below_alloc | apply pw_below_drewN | apply below_drew1 | refine below_set ?_ GE948.out | refine below_set ?_ GE968.out) | exact HB.out))) | (with_reducible refine Kd.C_alloc ?_ _) | (with_reducible refine Kd.C_drewN ?_ _) | (with_reducible refine Kd.C_drew ?_))); (case side2 => exact HC0_1.out); rintro e w101 ⟨v1005, rfl, ho0, hb⟩; refine ⟨_, rfl, ?_⟩; have n0_ := Aside0.mk (Kd.R_elder' (by (with_reducible repeat (first | apply Kd.R_alloc | apply Kd.R_drewN | apply Kd.R_drew)); exact HO_8.out) (Kd.R_base ho0) hb); have n1_ := Aside0.mk (Kd.R_elder' (by (with_reducible repeat (first | apply Kd.R_alloc | apply Kd.R_drewN | apply Kd.R_drew)); exact HO_13.out) (Kd.R_base ho0) hb); have n2_ := Aside0.mk (Kd.R_elder' (by (with_reducible repeat (first | apply Kd.R_alloc | apply Kd.R_drewN | apply Kd.R_drew)); exact HO_969001.out) (Kd.R_base ho0) hb); have n3_ := Aside0.mk (Kd.R_lower (Kd.R_new' (Kd.R_new' (Kd.R_new' ho0 (Kd.R_lt (by (with_reducible repeat (first | apply Kd.R_alloc | apply Kd.R_drewN | apply Kd.R_drew)); exact HO_8.out))) (Kd.R_lt (by (with_reducible repeat (first | apply Kd.R_alloc | apply Kd.R_drewN | apply Kd.R_drew)); exact HO_13.out))) (Kd.R_lt (by (with_reducible repeat (first | apply Kd.R_alloc | apply Kd.R_drewN | apply Kd.R_drew)); exact HO_969001.out))) (below_size (by repeat (first | (with_reducible first | exact HB.out | apply below_alloc | apply pw_below_drewN | apply below_drew1 | refine below_set ?_ GE948.out | refine below_set ?_ GE968.out) | exact HB.out)))); have n4_ := Aside0.mk (blk_below (g := gb948) (o := .cells #[.int .i64 a0_0, .slice A0_1 l0_1.length c0_1] 24 (0, 0)) (by (with_reducible repeat (first | refine blk_drewN ?_ _ | refine blk_drew ?_ | refine blk_alloc ?_ _)); exact BK948.out) hb); have n5_ := Aside0.mk (blk_below (g := gb968) (o := .cells #[.int .i64 t964, .slice Ao38 t994.length co38] 28 (0, 0)) (by (with_reducible repeat (first | refine blk_drewN ?_ _ | refine blk_drew ?_ | refine blk_alloc ?_ _)); exact BK968.out) hb); have n6_ := Aside0.mk (below_step (by repeat (first | (with_reducible first | exact HB.out | apply below_alloc | apply pw_below_drewN | apply below_drew1 | refine below_set ?_ GE948.out | refine below_set ?_ GE968.out) | exact HB.out)) hb); clear HO_8; clear HO_13; clear HO_969001; clear BK948; clear BK968; clear HB; have HO_8 := n0_; have HO_13 := n1_; have HO_969001 := n2_; have HO1006 := n3_; have BK948 := n4_; have BK968 := n5_; have HB := n6_; clear n0_ n1_ n2_ n3_ n4_ n5_ n6_; (try clear hb); (try clear hb2); (try clear hk); (try clear hi); (try clear ho0)) | ((with_reducible refine gate_callee (f := 21) rfl ?_); refine goesL_ (some 115) rfl rfl Try.func21 (by kernel_rfl) rfl #[.slice A1 l1.length c1] rfl (by (try simp only [List.map_toArray, List.map_cons, List.map_nil]); first | done | rfl | (simp only [List.length_drop, List.length_take]; rfl)) ?_; (with_reducible refine (laws_toIntS.calls kj63 _ _ l1 t1007 _ ?side1 ?side2 A93.out).mono ?_); (case side1 => repeat (first | exact (Kd.C_below HR1.out HB.out) | (with_reducible refine Kd.C_alloc ?_ _) | (with_reducible refine Kd.C_drewN ?_ _) | (with_reducible refine Kd.C_drew ?_))); (case side2 => exact HC1.out); rintro e w102 ⟨v1008, rfl, ho0, hb⟩; refine ⟨_, rfl, ?_⟩; have n0_ := Aside0.mk (Kd.R_elder' (by (with_reducible repeat (first | apply Kd.R_alloc | apply Kd.R_drewN | apply Kd.R_drew)); exact HO_8.out) (Kd.R_base ho0) hb); have n1_ := Aside0.mk (Kd.R_elder' (by (with_reducible repeat (first | apply Kd.R_alloc | apply Kd.R_drewN | apply Kd.R_drew)); exact HO_13.out) (Kd.R_base ho0) hb); have n2_ := Aside0.mk (Kd.R_elder' (by (with_reducible repeat (first | apply Kd.R_alloc | apply Kd.R_drewN | apply Kd.R_drew)); exact HO_969001.out) (Kd.R_base ho0) hb); have n3_ := Aside0.mk (Kd.R_elder' (by (with_reducible repeat (first | apply Kd.R_alloc | apply Kd.R_drewN | apply Kd.R_drew)); exact HO1006.out) (Kd.R_base ho0) hb); have n4_ := Aside0.mk (Kd.R_lower (Kd.R_new' (Kd.R_new' (Kd.R_new' (Kd.R_new' ho0 (Kd.R_lt (by (with_reducible repeat (first | apply Kd.R_alloc | apply Kd.R_drewN | apply Kd.R_drew)); exact HO_8.out))) (Kd.R_lt (by (with_reducible repeat (first | apply Kd.R_alloc | apply Kd.R_drewN | apply Kd.R_drew)); exact HO_13.out))) (Kd.R_lt (by (with_reducible repeat (first | apply Kd.R_alloc | apply Kd.R_drewN | apply Kd.R_drew)); exact HO_969001.out))) (Kd.R_lt (by (with_reducible repeat (first | apply Kd.R_alloc | apply Kd.R_drewN | apply Kd.R_drew)); exact HO1006.out))) (below_size (by repeat (first | (with_reducible first | exact HB.out | apply below_alloc | apply pw_below_drewN | apply below_drew1 | refine below_set ?_ GE948.out | refine below_set ?_ GE968.out) | exact HB.out)))); have n5_ := Aside0.mk (blk_below (g := gb948) (o := .cells #[.int .i64 a0_0, .slice A0_1 l0_1.length c0_1] 24 (0, 0)) (by (with_reducible repeat (first | refine blk_drewN ?_ _ | refine blk_drew ?_ | refine blk_alloc ?_ _)); exact BK948.out) hb); have n6_ := Aside0.mk (blk_below (g := gb968) (o := .cells #[.int .i64 t964, .slice Ao38 t994.length co38] 28 (0, 0)) (by (with_reducible repeat (first | refine blk_drewN ?_ _ | refine blk_drew ?_ | refine blk_alloc ?_ _)); exact BK968.out) hb); have n7_ := Aside0.mk (below_step (by repeat (first | (with_reducible first | exact HB.out | apply below_alloc | apply pw_below_drewN | apply below_drew1 | refine below_set ?_ GE948.out | refine below_set ?_ GE968.out) | exact HB.out)) hb); clear HO_8; clear HO_13; clear HO_969001; clear HO1006; clear BK948; clear BK968; clear HB; have HO_8 := n0_; have HO_13 := n1_; have HO_969001 := n2_; have HO1006 := n3_; have HO1009 := n4_; have BK948 := n5_; have BK968 := n6_; have HB := n7_; clear n0_ n1_ n2_ n3_ n4_ n5_ n6_ n7_; (try clear hb); (try clear hb2); (try clear hk); (try clear hi); (try clear ho0)) | ((with_reducible refine gate_callee (f := 21) rfl ?_); refine goesL_ (some 117) rfl rfl Try.func21 (by kernel_rfl) rfl #[.slice A2 l2.length c2] rfl (by (try simp only [List.map_toArray, List.map_cons, List.map_nil]); first | done | rfl | (simp only [List.length_drop, List.length_take]; rfl)) ?_; (with_reducible refine (laws_toIntS.calls kj63 _ _ l2 t1010 _ ?side1 ?side2 A94.out).mono ?_); (case side1 => repeat (first | exact (Kd.C_below HR2.out HB.out) | (with_reducible refine Kd.C_alloc ?_ _) | (with_reducible refine Kd.C_drewN ?_ _) | (with_reducible refine Kd.C_drew ?_))); (case side2 => exact HC2.out); rintro e w103 ⟨v1011, rfl, ho0, hb⟩; refine ⟨_, rfl, ?_⟩; have n0_ := Aside0.mk (Kd.R_elder' (by (with_reducible repeat (first | apply Kd.R_alloc | apply Kd.R_drewN | apply Kd.R_drew)); exact HO_8.out) (Kd.R_base ho0) hb); have n1_ := Aside0.mk (Kd.R_elder' (by (with_reducible repeat (first | apply Kd.R_alloc | apply Kd.R_drewN | apply Kd.R_drew)); exact HO_13.out) (Kd.R_base ho0) hb); have n2_ := Aside0.mk (Kd.R_elder' (by (with_reducible repeat (first | apply Kd.R_alloc | apply Kd.R_drewN | apply Kd.R_drew)); exact HO_969001.out) (Kd.R_base ho0) hb); have n3_ := Aside0.mk (Kd.R_elder' (by (with_reducible repeat (first | apply Kd.R_alloc | apply Kd.R_drewN | apply Kd.R_drew)); exact HO1006.out) (Kd.R_base ho0) hb); have n4_ := Aside0.mk (Kd.R_elder' (by (with_reducible repeat (first | apply Kd.R_alloc | apply Kd.R_drewN | apply Kd.R_drew)); exact HO1009.out) (Kd.R_base ho0) hb); have n5_ := Aside0.mk (Kd.R_lower (Kd.R_new' (Kd.R_new' (Kd.R_new' (Kd.R_new' (Kd.R_new' ho0 (Kd.R_lt (by (with_reducible repeat (first | apply Kd.R_alloc | apply Kd.R_drewN | apply Kd.R_drew)); exact HO_8.out))) (Kd.R_lt (by (with_reducible repeat (first | apply Kd.R_alloc | apply Kd.R_drewN | apply Kd.R_drew)); exact HO_13.out))) (Kd.R_lt (by (with_reducible repeat (first | apply Kd.R_alloc | apply Kd.R_drewN | apply Kd.R_drew)); exact HO_969001.out))) (Kd.R_lt (by (with_reducible repeat (first | apply Kd.R_alloc | apply Kd.R_drewN | apply Kd.R_drew)); exact HO1006.out))) (Kd.R_lt (by (with_reducible repeat (first | apply Kd.R_alloc | apply Kd.R_drewN | apply Kd.R_drew)); exact HO1009.out))) (below_size (by repeat (first | (with_reducible first | exact HB.out | apply below_alloc | apply pw_below_drewN | apply below_drew1 | refine below_set ?_ GE948.out | refine below_set ?_ GE968.out) | exact HB.out)))); have n6_ := Aside0.mk (blk_below (g := gb948) (o := .cells #[.int .i64 a0_0, .slice A0_1 l0_1.length c0_1] 24 (0, 0)) (by (with_reducible repeat (first | refine blk_drewN ?_ _ | refine blk_drew ?_ | refine blk_alloc ?_ _)); exact BK948.out) hb); have n7_ := Aside0.mk (blk_below (g := gb968) (o := .cells #[.int .i64 t964, .slice Ao38 t994.length co38] 28 (0, 0)) (by (with_reducible repeat (first | refine blk_drewN ?_ _ | refine blk_drew ?_ | refine blk_alloc ?_ _)); exact BK968.out) hb); have n8_ := Aside0.mk (below_step (by repeat (first | (with_reducible first | exact HB.out | apply below_alloc | apply pw_below_drewN | apply below_drew1 | refine below_set ?_ GE948.out | refine below_set ?_ GE968.out) | exact HB.out)) hb); clear HO_8; clear HO_13; clear HO_969001; clear HO1006; clear HO1009; clear BK948; clear BK968; clear HB; have HO_8 := n0_; have HO_13 := n1_; have HO_969001 := n2_; have HO1006 := n3_; have HO1009 := n4_; have HO1012 := n5_; have BK948 := n6_; have BK968 := n7_; have HB := n8_; clear n0_ n1_ n2_ n3_ n4_ n5_ n6_ n7_ n8_; (try clear hb); (try clear hb2); (try clear hk); (try clear hi); (try clear ho0); obtain ⟨Ao104, co104, eo104⟩ := Kd.R_slice HO1006.out; subst eo104; obtain ⟨Ao105, co105, eo105⟩ := Kd.R_slice HO1009.out; subst eo105; obtain ⟨Ao106, co106, eo106⟩ := Kd.R_slice HO1012.out; subst eo106) | ((with_reducible refine gate_callee (f := 50) rfl ?_); refine goesL_ (some 118) rfl rfl Try.func50 (by kernel_rfl) rfl #[.agg #[.int .i64 t1003, .slice Ao104 t1004.length co104], .slice Ao105 t1007.length co105, .slice Ao106 t1010.length co106] rfl (by (try simp only [List.map_toArray, List.map_cons, List.map_nil]); first | done | rfl | (simp only [List.length_drop, List.length_take]; rfl)) ?_; (with_reducible refine (impl_ExchangeWord.calls kj63 t1003 _ _ t1004 _ _ t1007 _ _ t1010 t1013 t1016 _ ?side1 ?side2 ?side3 ?side4 ?side5 ?side6 A95.out).mono ?_); (case side1 => repeat (first | exact (Kd.R_reads' HO1006.out).2.2 | (with_reducible refine Kd.C_alloc ?_ _) | (with_reducible refine Kd.C_drewN ?_ _) | (with_reducible refine Kd.C_drew ?_))); (case side2 => exact (Kd.R_reads' HO1006.out).2.1); (case side3 => repeat (first | exact (Kd.R_reads' HO1009.out).2.2 | (with_reducible refine Kd.C_alloc ?_ _) | (with_reducible refine Kd.C_drewN ?_ _) | (with_reducible refine Kd.C_drew ?_))); (case side4 => exact (Kd.R_reads' HO1009.out).2.1); (case side5 => repeat (first | exact (Kd.R_reads' HO1012.out).2.2 | (with_reducible refine Kd.C_alloc ?_ _) | (with_reducible refine Kd.C_drewN ?_ _) | (with_reducible refine Kd.C_drew ?_))); (case side6 => exact (Kd.R_reads' HO1012.out).2.1); rintro e w107 ⟨v1014, rfl, ho0, hb⟩; refine ⟨_, rfl, ?_⟩; have n0_ := Aside0.mk (Kd.R_elder' (by (with_reducible repeat (first | apply Kd.R_alloc | apply Kd.R_drewN | apply Kd.R_drew)); exact HO_8.out) (Kd.R_base ho0) hb); have n1_ := Aside0.mk (Kd.R_elder' (by (with_reducible repeat (first | apply Kd.R_alloc | apply Kd.R_drewN | apply Kd.R_drew)); exact HO_13.out) (Kd.R_base ho0) hb); have n2_ := Aside0.mk (Kd.R_elder' (by (with_reducible repeat (first | apply Kd.R_alloc | apply Kd.R_drewN | apply Kd.R_drew)); exact HO_969001.out) (Kd.R_base ho0) hb); have n3_ := Aside0.mk (Kd.R_elder' (by (with_reducible repeat (first | apply Kd.R_alloc | apply Kd.R_drewN | apply Kd.R_drew)); exact HO1006.out) (Kd.R_base ho0) hb); have n4_ := Aside0.mk (Kd.R_elder' (by (with_reducible repeat (first | apply Kd.R_alloc | apply Kd.R_drewN | apply Kd.R_drew)); exact HO1009.out) (Kd.R_base ho0) hb); have n5_ := Aside0.mk (Kd.R_elder' (by (with_reducible repeat (first | apply Kd.R_alloc | apply Kd.R_drewN | apply Kd.R_drew)); exact HO1012.out) (Kd.R_base ho0) hb); have n6_ := Aside0.mk (Kd.R_lower (Kd.R_new' (Kd.R_new' (Kd.R_new' (Kd.R_new' (Kd.R_new' (Kd.R_new' ho0 (Kd.R_lt (by (with_reducible repeat (first | apply Kd.R_alloc | apply Kd.R_drewN | apply Kd.R_drew)); exact HO_8.out))) (Kd.R_lt (by (with_reducible repeat (first | apply Kd.R_alloc | apply Kd.R_drewN | apply Kd.R_drew)); exact HO_13.out))) (Kd.R_lt (by (with_reducible repeat (first | apply Kd.R_alloc | apply Kd.R_drewN | apply Kd.R_drew)); exact HO_969001.out))) (Kd.R_lt (by (with_reducible repeat (first | apply Kd.R_alloc | apply Kd.R_drewN | apply Kd.R_drew)); exact HO1006.out))) (Kd.R_lt (by (with_reducible repeat (first | apply Kd.R_alloc | apply Kd.R_drewN | apply Kd.R_drew)); exact HO1009.out))) (Kd.R_lt (by (with_reducible repeat (first | apply Kd.R_alloc | apply Kd.R_drewN | apply Kd.R_drew)); exact HO1012.out))) (below_size (by repeat (first | (with_reducible first | exact HB.out | apply below_alloc | apply pw_below_drewN | apply below_drew1 | refine below_set ?_ GE948.out | refine below_set ?_ GE968.out) | exact HB.out)))); have n7_ := Aside0.mk (blk_below (g := gb948) (o := .cells #[.int .i64 a0_0, .slice A0_1 l0_1.length c0_1] 24 (0, 0)) (by (with_reducible repeat (first | refine blk_drewN ?_ _ | refine blk_drew ?_ | refine blk_alloc ?_ _)); exact BK948.out) hb); have n8_ := Aside0.mk (blk_below (g := gb968) (o := .cells #[.int .i64 t964, .slice Ao38 t994.length co38] 28 (0, 0)) (by (with_reducible repeat (first | refine blk_drewN ?_ _ | refine blk_drew ?_ | refine blk_alloc ?_ _)); exact BK968.out) hb); have n9_ := Aside0.mk (below_step (by repeat (first | (with_reducible first | exact HB.out | apply below_alloc | apply pw_below_drewN | apply below_drew1 | refine below_set ?_ GE948.out | refine below_set ?_ GE968.out) | exact HB.out)) hb); clear HO_8; clear HO_13; clear HO_969001; clear HO1006; clear HO1009; clear HO1012; clear BK948; clear BK968; clear HB; have HO_8 := n0_; have HO_13 := n1_; have HO_969001 := n2_; have HO1006 := n3_; have HO1009 := n4_; have HO1012 := n5_; have HO1015 := n6_; have BK948 := n7_; have BK968 := n8_; have HB := n9_; clear n0_ n1_ n2_ n3_ n4_ n5_ n6_ n7_ n8_ n9_; (try clear hb); (try clear hb2); (try clear hk); (try clear hi); (try clear ho0)))
                              (try simp only [Act.put, List.setIfInBounds_toArray, List.set_cons_zero, List.set_cons_succ])
                              go_cut [129] (fun v129 wc => ∃ (kq : Nat) (x129_95 : Bool), v129 = .bool x129_95 ∧ Aside0 (laws_FnExactExchangeWord.j2 kq t1001 t1000 x129_95 = some r) ∧ Aside0 (kq ≤ kj63) ∧ Aside0 (Kd.R (Kd.int .i64) 3 wc w.heap.size (fun k_ => some k_ ≠ ((.slice Ao38 t994.length co38) : Value).ownBlock) (.slice Ao97 t975.length co97) t1001) ∧ Aside0 (Kd.R (Kd.int .i64) 3 wc w.heap.size (fun k_ => some k_ ≠ ((.slice Ao97 t975.length co97) : Value).ownBlock) (.slice Ao38 t994.length co38) t994) ∧ Aside0 (wc.heap[gb948]? = some (.cells #[.int .i64 a0_0, (.slice A0_1 l0_1.length c0_1)] 24 (0, 0))) ∧ Aside0 (wc.heap[gb968]? = some (.cells #[.int .i64 t964, (.slice Ao38 t994.length co38)] 28 (0, 0))) ∧ Aside0 (Below w.heap.size w wc))
                              case first =>
                                have H := HC96.out
                                clear HC96
                                replace H := Option.bind_eq_some_iff.mp H
                                obtain ⟨t1017, A1080, H⟩ := H
                                replace H : (if t1017 = true then (laws_FnExactExchangeWord.j2 kj63 t1001 t1000 (t1016 != t963)) else (laws_FnExactExchangeWord.j2 kj63 t1001 t1000 true)) = some r := H
                                have A108 := Aside0.mk A1080
                                clear A1080
                                by_cases c109 : t1017 = true
                                · subst c109
                                  have H1 : (laws_FnExactExchangeWord.j2 kj63 t1001 t1000 (t1016 != t963)) = some r := by rw [if_pos rfl] at H; exact H
                                  clear H
                                  have H := H1
                                  clear H1
                                  have H' := Aside0.mk H
                                  clear H
                                  obtain ⟨Ao110, co110, eo110⟩ := Kd.R_slice HO1015.out
                                  subst eo110
                                  obtain ⟨Ao111, co111, eo111⟩ := Kd.R_slice HO_8.out
                                  subst eo111
                                  go_wp2_with (first | ((with_reducible refine gate_callee (f := 23) rfl ?_); refine goesL_ (some 123) rfl rfl Try.func23 (by kernel_rfl) rfl #[.slice Ao110 t1013.length co110, .slice Ao111 t960.length co111] rfl (by (try simp only [List.map_toArray, List.map_cons, List.map_nil]); first | done | rfl | (simp only [List.length_drop, List.length_take]; rfl)) ?_; (with_reducible refine (laws_eqIntS.calls kj63 _ _ t1013 _ _ t960 true _ ?side1 ?side2 ?side3 ?side4 A108.out).mono ?_); (case side1 => repeat (first | exact (Kd.R_reads' HO1015.out).2.2 | (with_reducible refine Kd.C_alloc ?_ _) | (with_reducible refine Kd.C_drewN ?_ _) | (with_reducible refine Kd.C_drew ?_))); (case side2 => exact (Kd.R_reads' HO1015.out).2.1); (case side3 => repeat (first | exact (Kd.R_reads' HO_8.out).2.2 | (with_reducible refine Kd.C_alloc ?_ _) | (with_reducible refine Kd.C_drewN ?_ _) | (with_reducible refine Kd.C_drew ?_))); (case side4 => exact (Kd.R_reads' HO_8.out).2.1); rintro e w' ⟨rfl, ⟨nd, rfl⟩⟩; refine ⟨_, rfl, ?_⟩))
                                  go_meet
                                  case rel => exact ⟨_, ((t1016 != t963)), (by first | rfl | (simp; done) | (simp [*]; done)), H', ⟨by have := HJ20.out; have := HJ63.out; first | omega | exact Nat.le_refl _⟩, ⟨by (try simp only [hl969001_63]); (with_reducible repeat (first | apply Kd.R_alloc | apply Kd.R_drewN | apply Kd.R_drew)); exact Kd.R_mono HO_13.out (fun _ hk => hk.1.1.1.1.2)⟩, ⟨by (try simp only [hl969001_63]); (with_reducible repeat (first | apply Kd.R_alloc | apply Kd.R_drewN | apply Kd.R_drew)); exact Kd.R_mono HO_969001.out (fun _ hk => hk.1.1.1.1.2)⟩, ⟨by (try simp only [hl969001_63]); (with_reducible repeat (first | refine blk_drewN ?_ _ | refine blk_drew ?_ | refine blk_alloc ?_ _)); exact BK948.out⟩, ⟨by (try simp only [hl969001_63]); (with_reducible repeat (first | refine blk_drewN ?_ _ | refine blk_drew ?_ | refine blk_alloc ?_ _)); exact BK968.out⟩, ⟨by repeat (first | (with_reducible first | exact HB.out | apply below_alloc | apply pw_below_drewN | apply below_drew1 | refine below_set ?_ GE948.out | refine below_set ?_ GE968.out) | exact HB.out)⟩⟩
                                · replace c109 := Bool.eq_false_iff.mpr c109
                                  subst c109
                                  have H1 : (laws_FnExactExchangeWord.j2 kj63 t1001 t1000 true) = some r := by rw [if_neg (show ¬ (false = true) by decide)] at H; exact H
                                  clear H
                                  have H := H1
                                  clear H1
                                  have H' := Aside0.mk H
                                  clear H
                                  obtain ⟨Ao112, co112, eo112⟩ := Kd.R_slice HO1015.out
                                  subst eo112
                                  obtain ⟨Ao113, co113, eo113⟩ := Kd.R_slice HO_8.out
                                  subst eo113
                                  go_wp2_with (first | ((with_reducible refine gate_callee (f := 23) rfl ?_); refine goesL_ (some 123) rfl rfl Try.func23 (by kernel_rfl) rfl #[.slice Ao112 t1013.length co112, .slice Ao113 t960.length co113] rfl (by (try simp only [List.map_toArray, List.map_cons, List.map_nil]); first | done | rfl | (simp only [List.length_drop, List.length_take]; rfl)) ?_; (with_reducible refine (laws_eqIntS.calls kj63 _ _ t1013 _ _ t960 false _ ?side1 ?side2 ?side3 ?side4 A108.out).mono ?_); (case side1 => repeat (first | exact (Kd.R_reads' HO1015.out).2.2 | (with_reducible refine Kd.C_alloc ?_ _) | (with_reducible refine Kd.C_drewN ?_ _) | (with_reducible refine Kd.C_drew ?_))); (case side2 => exact (Kd.R_reads' HO1015.out).2.1); (case side3 => repeat (first | exact (Kd.R_reads' HO_8.out).2.2 | (with_reducible refine Kd.C_alloc ?_ _) | (with_reducible refine Kd.C_drewN ?_ _) | (with_reducible refine Kd.C_drew ?_))); (case side4 => exact (Kd.R_reads' HO_8.out).2.1); rintro e w' ⟨rfl, ⟨nd, rfl⟩⟩; refine ⟨_, rfl, ?_⟩))
                                  go_meet
                                  case rel => exact ⟨_, (true), (by first | rfl | (simp; done) | (simp [*]; done)), H', ⟨by have := HJ20.out; have := HJ63.out; first | omega | exact Nat.le_refl _⟩, ⟨by (try simp only [hl969001_63]); (with_reducible repeat (first | apply Kd.R_alloc | apply Kd.R_drewN | apply Kd.R_drew)); exact Kd.R_mono HO_13.out (fun _ hk => hk.1.1.1.1.2)⟩, ⟨by (try simp only [hl969001_63]); (with_reducible repeat (first | apply Kd.R_alloc | apply Kd.R_drewN | apply Kd.R_drew)); exact Kd.R_mono HO_969001.out (fun _ hk => hk.1.1.1.1.2)⟩, ⟨by (try simp only [hl969001_63]); (with_reducible repeat (first | refine blk_drewN ?_ _ | refine blk_drew ?_ | refine blk_alloc ?_ _)); exact BK948.out⟩, ⟨by (try simp only [hl969001_63]); (with_reducible repeat (first | refine blk_drewN ?_ _ | refine blk_drew ?_ | refine blk_alloc ?_ _)); exact BK968.out⟩, ⟨by repeat (first | (with_reducible first | exact HB.out | apply below_alloc | apply pw_below_drewN | apply below_drew1 | refine below_set ?_ GE948.out | refine below_set ?_ GE968.out) | exact HB.out)⟩⟩
                              case rest =>
                                clear HC96
                                try clear c1
                                try clear c2
                                try clear p2
                                try clear c3
                                try clear c4
                                try clear c4b0
                                try clear c4b1
                                try clear c5
                                try clear c6
                                try clear c6b0
                                try clear c6b1
                                try clear c7
                                try clear c8
                                try clear c9
                                try clear c9b0
                                try clear c10
                                try clear c11
                                try clear c15
                                try clear c17
                                try clear c19
                                try clear c21
                                try clear c23
                                try clear c24
                                try clear c25
                                try clear c34
                                try clear c36
                                try clear c46
                                try clear c49
                                try clear c50
                                try clear c51
                                try clear c54
                                try clear c57
                                try clear c60
                                try clear c73
                                try clear c78
                                try clear c78b0
                                try clear c80
                                try clear c85
                                try clear c88
                                try clear c88b0
                                try clear c91
                                try clear c91b0
                                try clear c91b1
                                try clear c99
                                try clear c109
                                try clear hcz100_0
                                try clear hcz100_1
                                try clear hcz11_0
                                try clear hcz11_1
                                try clear hcz23_0
                                try clear hcz23_1
                                try clear hcz25_0
                                try clear hcz25_1
                                try clear hcz33_0
                                try clear hcz33_1
                                try clear hcz37_0
                                try clear hcz37_1
                                try clear hcz41_0
                                try clear hcz41_1
                                try clear hcz74_0
                                try clear hcz74_1
                                try clear hfz100_0
                                try clear hfz100_1
                                try clear hfz11_0
                                try clear hfz11_1
                                try clear hfz23_0
                                try clear hfz23_1
                                try clear hfz25_0
                                try clear hfz25_1
                                try clear hfz33_0
                                try clear hfz33_1
                                try clear hfz37_0
                                try clear hfz37_1
                                try clear hfz41_0
                                try clear hfz41_1
                                try clear hfz74_0
                                try clear hfz74_1
                                try clear p2
                                obtain ⟨kq, x129_95, rfl, HA, HJ95, HO_13, HO_969001, BK948, BK968, HB⟩ := hcut
                                have hl13_95 := (Kd.R_reads' HO_13.out).1
                                rw [hl13_95] at HO_13
                                (try simp only [hl13_95])
                                (try simp only [hl13_95] at BK948)
                                (try simp only [hl13_95] at BK968)
                                (try simp only [hl13_95] at HO_969001)
                                cases kq with
                                | zero => exact absurd HA.out (by simp [laws_FnExactExchangeWord.j2])
                                | succ kj95 =>
                                  have H := HA.out
                                  clear HA
                                  simp only [laws_FnExactExchangeWord.j2] at H
                                  by_cases c114 : x129_95 = true
                                  · subst c114
                                    have H1 : (some false) = some r := by rw [if_pos rfl] at H; exact H
                                    clear H
                                    have H := H1
                                    clear H1
                                    obtain rfl := Option.some.inj H
                                    go_wp2
                                    go_ret
                                    exact ⟨by first | rfl | (simp [errW_none, errW_some] <;> rfl) | (simp [*, errW_none, errW_some] <;> rfl), by repeat (first | (with_reducible first | exact HB.out | apply below_alloc | apply pw_below_drewN | apply below_drew1 | refine below_set ?_ GE948.out | refine below_set ?_ GE968.out) | exact HB.out)⟩
                                  · replace c114 := Bool.eq_false_iff.mpr c114
                                    subst c114
                                    have H1 : ((laws_heldIntS.f kj95 t1001 1).bind fun t1018 => (if t1018 < 0 then (some false) else (if t1018 = t1000 then (some true) else (some false)))) = some r := by rw [if_neg (show ¬ (false = true) by decide)] at H; exact H
                                    clear H
                                    have H := H1
                                    clear H1
                                    replace H := Option.bind_eq_some_iff.mp H
                                    obtain ⟨t1018, A1150, H⟩ := H
                                    replace H : (if t1018 < 0 then (some false) else (if t1018 = t1000 then (some true) else (some false))) = some r := H
                                    have A115 := Aside0.mk A1150
                                    clear A1150
                                    by_cases c116 : t1018 < 0
                                    · rw [if_pos c116] at H
                                      have c116b0 : decide (t1018 < 0) = true := decide_eq_true c116
                                      clear c116
                                      obtain rfl := Option.some.inj H
                                      go_wp2_with (first | ((with_reducible refine gate_callee (f := 34) rfl ?_); refine goesL_ (some 132) rfl rfl Try.func34 (by kernel_rfl) rfl #[.slice Ao97 t1001.length co97, .int .i64 1] rfl (by (try simp only [List.map_toArray, List.map_cons, List.map_nil]); first | done | rfl | (simp only [List.length_drop, List.length_take]; rfl)) ?_; (with_reducible refine (laws_heldIntS.calls kj95 _ _ t1001 1 t1018 _ ?side1 ?side2 A115.out).mono ?_); (case side1 => repeat (first | exact (Kd.R_reads' HO_13.out).2.2 | (with_reducible refine Kd.C_alloc ?_ _) | (with_reducible refine Kd.C_drewN ?_ _) | (with_reducible refine Kd.C_drew ?_))); (case side2 => exact (Kd.R_reads' HO_13.out).2.1); rintro e w' ⟨rfl, ⟨nd, rfl⟩⟩; refine ⟨_, rfl, ?_⟩))
                                      go_ret
                                      exact ⟨by first | rfl | (simp [errW_none, errW_some] <;> rfl) | (simp [*, errW_none, errW_some] <;> rfl), by repeat (first | (with_reducible first | exact HB.out | apply below_alloc | apply pw_below_drewN | apply below_drew1 | refine below_set ?_ GE948.out | refine below_set ?_ GE968.out) | exact HB.out)⟩
                                    · rw [if_neg c116] at H
                                      have c116b0 : decide (t1018 < 0) = false := decide_eq_false c116
                                      clear c116
                                      by_cases c117 : t1018 = t1000
                                      · rw [if_pos c117] at H
                                        have c117b0 : (t1018 == t1000) = true := beq_iff_eq.mpr c117
                                        have c117b1 : (t1018 != t1000) = false := bne_eq_false_iff_eq.mpr c117
                                        clear c117
                                        obtain rfl := Option.some.inj H
                                        go_wp2_with (first | ((with_reducible refine gate_callee (f := 34) rfl ?_); refine goesL_ (some 132) rfl rfl Try.func34 (by kernel_rfl) rfl #[.slice Ao97 t1001.length co97, .int .i64 1] rfl (by (try simp only [List.map_toArray, List.map_cons, List.map_nil]); first | done | rfl | (simp only [List.length_drop, List.length_take]; rfl)) ?_; (with_reducible refine (laws_heldIntS.calls kj95 _ _ t1001 1 t1018 _ ?side1 ?side2 A115.out).mono ?_); (case side1 => repeat (first | exact (Kd.R_reads' HO_13.out).2.2 | (with_reducible refine Kd.C_alloc ?_ _) | (with_reducible refine Kd.C_drewN ?_ _) | (with_reducible refine Kd.C_drew ?_))); (case side2 => exact (Kd.R_reads' HO_13.out).2.1); rintro e w' ⟨rfl, ⟨nd, rfl⟩⟩; refine ⟨_, rfl, ?_⟩))
                                        go_ret
                                        exact ⟨by first | rfl | (simp [errW_none, errW_some] <;> rfl) | (simp [*, errW_none, errW_some] <;> rfl), by repeat (first | (with_reducible first | exact HB.out | apply below_alloc | apply pw_below_drewN | apply below_drew1 | refine below_set ?_ GE948.out | refine below_set ?_ GE968.out) | exact HB.out)⟩
                                      · rw [if_neg c117] at H
                                        have c117b0 : (t1018 == t1000) = false := beq_eq_false_iff_ne.mpr c117
                                        have c117b1 : (t1018 != t1000) = true := bne_iff_ne.mpr c117
                                        obtain rfl := Option.some.inj H
                                        go_wp2_with (first | ((with_reducible refine gate_callee (f := 34) rfl ?_); refine goesL_ (some 132) rfl rfl Try.func34 (by kernel_rfl) rfl #[.slice Ao97 t1001.length co97, .int .i64 1] rfl (by (try simp only [List.map_toArray, List.map_cons, List.map_nil]); first | done | rfl | (simp only [List.length_drop, List.length_take]; rfl)) ?_; (with_reducible refine (laws_heldIntS.calls kj95 _ _ t1001 1 t1018 _ ?side1 ?side2 A115.out).mono ?_); (case side1 => repeat (first | exact (Kd.R_reads' HO_13.out).2.2 | (with_reducible refine Kd.C_alloc ?_ _) | (with_reducible refine Kd.C_drewN ?_ _) | (with_reducible refine Kd.C_drew ?_))); (case side2 => exact (Kd.R_reads' HO_13.out).2.1); rintro e w' ⟨rfl, ⟨nd, rfl⟩⟩; refine ⟨_, rfl, ?_⟩))
                                        go_ret
                                        exact ⟨by first | rfl | (simp [errW_none, errW_some] <;> rfl) | (simp [*, errW_none, errW_some] <;> rfl), by repeat (first | (with_reducible first | exact HB.out | apply below_alloc | apply pw_below_drewN | apply below_drew1 | refine below_set ?_ GE948.out | refine below_set ?_ GE968.out) | exact HB.out)⟩
                            · rw [if_neg c91] at H
                              have c91b0 : (t1002 == t1000) = false := beq_eq_false_iff_ne.mpr c91
                              have c91b1 : (t1002 != t1000) = true := bne_iff_ne.mpr c91
                              obtain rfl := Option.some.inj H
                              obtain ⟨Ao118, co118, eo118⟩ := Kd.R_slice HO_13.out
                              subst eo118
                              go_wp2_with (first | ((with_reducible refine gate_callee (f := 24) rfl ?_); refine goesL_ (some 102) rfl rfl Try.func24 (by kernel_rfl) rfl #[.slice Ao118 t975.length co118, .int .i64 1] rfl (by (try simp only [List.map_toArray, List.map_cons, List.map_nil]); first | done | rfl | (simp only [List.length_drop, List.length_take]; rfl)) ?_; (with_reducible refine (laws_markIntS.calls kj63 (fun k_ => some k_ = (.slice Ao118 t975.length co118 : Value).ownBlock) (.slice Ao118 t975.length co118) t975 1 t1000 t1001 w _ ?side1 ?side2 A86.out).mono ?_); (case side1 => repeat (first | (with_reducible first | exact HB.out | apply below_alloc | apply pw_below_drewN | apply below_drew1 | refine below_set ?_ GE948.out | refine below_set ?_ GE968.out) | exact HB.out)); (case side2 => exact Kd.R_tight rfl HO_13.out); rintro e w119 ⟨rfl, hy0, hb, hkp⟩; refine ⟨_, rfl, ?_⟩; have n0_ := Aside0.mk (Kd.R_mono (ok' := fun k_ => some k_ ≠ (.slice Ao118 t975.length co118 : Value).ownBlock ∧ some k_ ≠ (.slice Ao38 t994.length co38 : Value).ownBlock) (Kd.R_keptB (HO_8.out) hkp (fun k_ hk_ hs_ => (hk_.1) hs_)) (fun k_ hk_ => ⟨hk_.1.1, hk_.1.2⟩)); have n1_ := Aside0.mk (Kd.R_reok rfl hy0 (fun k_ e_ => HO_13.out.1 k_ e_)); have n2_ := Aside0.mk (Kd.R_mono (ok' := fun k_ => some k_ ≠ (v961 : Value).ownBlock ∧ some k_ ≠ (.slice Ao118 t975.length co118 : Value).ownBlock) (Kd.R_keptB (HO_969001.out) hkp (fun k_ hk_ hs_ => (hk_.2) hs_)) (fun k_ hk_ => ⟨hk_.1.1, hk_.1.2⟩)); have n3_ := Aside0.mk (blk_kept (by (with_reducible repeat (first | refine blk_drewN ?_ _ | refine blk_drew ?_ | refine blk_alloc ?_ _)); exact BK948.out) hkp (fun hs_ => (fun e_ => (Kd.R_ne HO_13.out BK948.out (by decide)) e_) hs_)); have n4_ := Aside0.mk (blk_kept (by (with_reducible repeat (first | refine blk_drewN ?_ _ | refine blk_drew ?_ | refine blk_alloc ?_ _)); exact BK968.out) hkp (fun hs_ => (fun e_ => (Kd.R_ne HO_13.out BK968.out (by decide)) e_) hs_)); have n5_ := Aside0.mk (hb); clear HO_8; clear HO_13; clear HO_969001; clear BK948; clear BK968; clear HB; have HO_8 := n0_; have HO_13 := n1_; have HO_969001 := n2_; have BK948 := n3_; have BK968 := n4_; have HB := n5_; clear n0_ n1_ n2_ n3_ n4_ n5_; (try clear hb); (try clear hkp); (try clear hy0)) | ((with_reducible refine gate_callee (f := 34) rfl ?_); refine goesL_ (some 105) rfl rfl Try.func34 (by kernel_rfl) rfl #[.slice Ao118 t1001.length co118, .int .i64 1] rfl (by (try simp only [List.map_toArray, List.map_cons, List.map_nil]); first | done | (rw [show t1001.length = t975.length from (Kd.R_reads' HO_13.out).1.symm] <;> rfl) | rfl | (simp only [List.length_drop, List.length_take]; rfl)) ?_; (with_reducible refine (laws_heldIntS.calls kj63 _ _ t1001 1 t1002 _ ?side1 ?side2 A87.out).mono ?_); (case side1 => repeat (first | exact (Kd.R_reads' HO_13.out).2.2 | (with_reducible refine Kd.C_alloc ?_ _) | (with_reducible refine Kd.C_drewN ?_ _) | (with_reducible refine Kd.C_drew ?_))); (case side2 => rw [show t1001.length = t975.length from (Kd.R_reads' HO_13.out).1.symm]; exact (Kd.R_reads' HO_13.out).2.1); rintro e w' ⟨rfl, ⟨nd, rfl⟩⟩; refine ⟨_, rfl, ?_⟩))
                              go_ret
                              exact ⟨by first | rfl | (simp [errW_none, errW_some] <;> rfl) | (simp [*, errW_none, errW_some] <;> rfl), by repeat (first | (with_reducible first | exact HB.out | apply below_alloc | apply pw_below_drewN | apply below_drew1 | refine below_set ?_ GE948.out | refine below_set ?_ GE968.out) | exact HB.out)⟩
                  · replace c60 := Bool.eq_false_iff.mpr c60
                    subst c60
                    have H1 : (some false) = some r := by rw [if_neg (show ¬ (false = true) by decide)] at H; exact H
                    clear H
                    have H := H1
                    clear H1
                    obtain rfl := Option.some.inj H
                    try go_wp2
                    have n0_ := Aside0.mk (Kd.R_drew HO_8.out)
                    have n1_ := Aside0.mk (Kd.R_drew HO_11.out)
                    have n2_ := Aside0.mk (Kd.R_drew HO_12.out)
                    have n3_ := Aside0.mk (Kd.R_drew HO_13.out)
                    have n4_ := Aside0.mk (Kd.R_drew HO_969001.out)
                    have n5_ := Aside0.mk (blk_drew BK948.out)
                    have n6_ := Aside0.mk (blk_drew BK968.out)
                    have n7_ := Aside0.mk (below_drew1 HB.out)
                    clear HO_8
                    clear HO_11
                    clear HO_12
                    clear HO_13
                    clear HO_969001
                    clear BK948
                    clear BK968
                    clear HB
                    have HO_8 := n0_
                    have HO_11 := n1_
                    have HO_12 := n2_
                    have HO_13 := n3_
                    have HO_969001 := n4_
                    have BK948 := n5_
                    have BK968 := n6_
                    have HB := n7_
                    clear n0_ n1_ n2_ n3_ n4_ n5_ n6_ n7_
                    refine start_ (n := 5) (S := fun w' => w'.cell? ⟨gb968, 0, none⟩ = some (.int .i64 t964) ∧ w'.cell? ⟨gb968, 1, none⟩ = some (.slice Ao38 t965.length co38) ∧ w'.cell? ⟨gb948, 0, none⟩ = some (.int .i64 a0_0) ∧ w'.cell? ⟨gb948, 1, none⟩ = some (.slice A0_1 l0_1.length c0_1)) (ds := []) #[false, false, false, false, false] (by kernel_rfl) rfl rfl ⟨(blk_cell BK968.out 0).trans rfl, (blk_cell BK968.out 1).trans rfl, (blk_cell BK948.out 0).trans rfl, (blk_cell BK948.out 1).trans rfl⟩ (fun hHeld => ?_)
                    generalize wc.drew = w120 at HO_8 HO_11 HO_12 HO_13 HO_969001 BK948 BK968 HB hHeld ⊢
                    refine take_ (i := 0) (N := some 63) (v := ?_) (a' := ?_) #[true, false, false, false, false] rfl rfl (by kernel_rfl) (fun _ _ _ h => h) (Or.inl ⟨by rfl, ?_⟩) hHeld ?_ ?_
                    rotate_left
                    · rintro w' ⟨s0, s1, s2, s3⟩
                      go_simp
                      with_reducible rfl
                    rotate_left
                    · simp only [Act.put, List.setIfInBounds_toArray, List.set_cons_zero, List.set_cons_succ, i64_w, i32_w]
                      rfl
                    refine take_ (i := 1) (N := some 64) (v := ?_) (a' := ?_) #[true, true, false, false, false] rfl rfl (by kernel_rfl) (fun _ _ _ h => h) (Or.inl ⟨by rfl, ?_⟩) hHeld ?_ ?_
                    rotate_left
                    · rintro w' ⟨s0, s1, s2, s3⟩
                      go_simp
                      with_reducible rfl
                    rotate_left
                    · simp only [Act.put, List.setIfInBounds_toArray, List.set_cons_zero, List.set_cons_succ, i64_w, i32_w]
                      rfl
                    refine one_ (i := 2) (N := some 65) #[true, true, true, false, false] rfl rfl (by kernel_rfl) (by decide) (fun K hK => ?_)
                    refine goes_ Try.func17 (by kernel_rfl) rfl #[.agg #[.int .i64 a0_0, .slice A0_1 l0_1.length c0_1]] (by rfl) rfl rfl (by (try simp only [List.map_toArray, List.map_cons, List.map_nil]); first | done | rfl | (simp only [List.length_drop, List.length_take]; rfl)) ?_
                    with_reducible refine (laws_toSpace.calls kj20 a0_0 _ _ l0_1 t980 t981 _ ?side1 ?side2 A52.out).mono ?_
                    (case side1 => repeat (first | exact (Kd.C_below HR0_1.out HB.out) | (with_reducible refine Kd.C_alloc ?_ _) | (with_reducible refine Kd.C_drewN ?_ _) | (with_reducible refine Kd.C_drew ?_)))
                    (case side2 => exact HC0_1.out)
                    rintro e w121 ⟨v982, rfl, ho0, hb⟩
                    refine ⟨_, rfl, ?_⟩
                    have n0_ := Aside0.mk (Kd.R_elder' (by (with_reducible repeat (first | apply Kd.R_alloc | apply Kd.R_drewN | apply Kd.R_drew)); exact HO_8.out) (Kd.R_base ho0) hb)
                    have n1_ := Aside0.mk (Kd.R_elder' (by (with_reducible repeat (first | apply Kd.R_alloc | apply Kd.R_drewN | apply Kd.R_drew)); exact HO_11.out) (Kd.R_base ho0) hb)
                    have n2_ := Aside0.mk (Kd.R_elder' (by (with_reducible repeat (first | apply Kd.R_alloc | apply Kd.R_drewN | apply Kd.R_drew)); exact HO_12.out) (Kd.R_base ho0) hb)
                    have n3_ := Aside0.mk (Kd.R_elder' (by (with_reducible repeat (first | apply Kd.R_alloc | apply Kd.R_drewN | apply Kd.R_drew)); exact HO_13.out) (Kd.R_base ho0) hb)
                    have n4_ := Aside0.mk (Kd.R_elder' (by (with_reducible repeat (first | apply Kd.R_alloc | apply Kd.R_drewN | apply Kd.R_drew)); exact HO_969001.out) (Kd.R_base ho0) hb)
                    have n5_ := Aside0.mk (Kd.R_lower (Kd.R_new' (Kd.R_new' (Kd.R_new' (Kd.R_new' (Kd.R_new' ho0 (Kd.R_lt (by (with_reducible repeat (first | apply Kd.R_alloc | apply Kd.R_drewN | apply Kd.R_drew)); exact HO_8.out))) (Kd.R_lt (by (with_reducible repeat (first | apply Kd.R_alloc | apply Kd.R_drewN | apply Kd.R_drew)); exact HO_11.out))) (Kd.R_lt (by (with_reducible repeat (first | apply Kd.R_alloc | apply Kd.R_drewN | apply Kd.R_drew)); exact HO_12.out))) (Kd.R_lt (by (with_reducible repeat (first | apply Kd.R_alloc | apply Kd.R_drewN | apply Kd.R_drew)); exact HO_13.out))) (Kd.R_lt (by (with_reducible repeat (first | apply Kd.R_alloc | apply Kd.R_drewN | apply Kd.R_drew)); exact HO_969001.out))) (below_size (by repeat (first | (with_reducible first | exact HB.out | apply below_alloc | apply pw_below_drewN | apply below_drew1 | refine below_set ?_ GE948.out | refine below_set ?_ GE968.out) | exact HB.out))))
                    have n6_ := Aside0.mk (blk_below (g := gb948) (o := .cells #[.int .i64 a0_0, .slice A0_1 l0_1.length c0_1] 24 (0, 0)) (by (with_reducible repeat (first | refine blk_drewN ?_ _ | refine blk_drew ?_ | refine blk_alloc ?_ _)); exact BK948.out) hb)
                    have n7_ := Aside0.mk (blk_below (g := gb968) (o := .cells #[.int .i64 t964, .slice Ao38 t965.length co38] 28 (0, 0)) (by (with_reducible repeat (first | refine blk_drewN ?_ _ | refine blk_drew ?_ | refine blk_alloc ?_ _)); exact BK968.out) hb)
                    have n8_ := Aside0.mk (below_step (by repeat (first | (with_reducible first | exact HB.out | apply below_alloc | apply pw_below_drewN | apply below_drew1 | refine below_set ?_ GE948.out | refine below_set ?_ GE968.out) | exact HB.out)) hb)
                    clear HO_8
                    clear HO_11
                    clear HO_12
                    clear HO_13
                    clear HO_969001
                    clear BK948
                    clear BK968
                    clear HB
                    have HO_8 := n0_
                    have HO_11 := n1_
                    have HO_12 := n2_
                    have HO_13 := n3_
                    have HO_969001 := n4_
                    have HO983 := n5_
                    have BK948 := n6_
                    have BK968 := n7_
                    have HB := n8_
                    clear n0_ n1_ n2_ n3_ n4_ n5_ n6_ n7_ n8_
                    (try clear hb)
                    (try clear hb2)
                    (try clear hk)
                    (try clear hi)
                    (try clear ho0)
                    obtain ⟨Ao122, co122, eo122⟩ := Kd.R_slice HO983.out
                    (first | subst eo122 | (injection eo122 with f1_ f2_ f3_; have f4_ := f1_.symm; have f5_ := f3_.symm; clear f1_ f2_ f3_; subst f4_; subst f5_))
                    refine hK.out _ _ ⟨(blk_cell BK968.out 0).trans rfl, (blk_cell BK968.out 1).trans rfl, (blk_cell BK948.out 0).trans rfl, (blk_cell BK948.out 1).trans rfl⟩ (fun hHeld => ?_)
                    clear hK K
                    refine norm_ (a' := ?_) ?_ ?_
                    rotate_left
                    · show Act.put _ (some 65) _ = _
                      simp only [Act.put, List.setIfInBounds_toArray, List.set_cons_zero, List.set_cons_succ, i64_w, i32_w]
                      rfl
                    refine one_ (i := 3) (N := some 66) #[true, true, true, true, false] rfl rfl (by kernel_rfl) (by decide) (fun K hK => ?_)
                    refine goes_ Try.func19 (by kernel_rfl) rfl #[.agg #[.int .i64 t964, .slice Ao38 t965.length co38], .agg #[.int .i64 t980, .slice Ao122 t981.length co122]] (by rfl) rfl rfl (by (try simp only [List.map_toArray, List.map_cons, List.map_nil]); first | done | rfl | (simp only [List.length_drop, List.length_take]; rfl)) ?_
                    with_reducible refine (laws_eqSpace.calls kj20 t964 _ _ t965 t980 _ _ t981 true _ ?side1 ?side2 ?side3 ?side4 A53.out).mono ?_
                    (case side1 => repeat (first | exact (Kd.R_reads' HO_969001.out).2.2 | (with_reducible refine Kd.C_alloc ?_ _) | (with_reducible refine Kd.C_drewN ?_ _) | (with_reducible refine Kd.C_drew ?_)))
                    (case side2 => exact (Kd.R_reads' HO_969001.out).2.1)
                    (case side3 => repeat (first | exact (Kd.R_reads' HO983.out).2.2 | (with_reducible refine Kd.C_alloc ?_ _) | (with_reducible refine Kd.C_drewN ?_ _) | (with_reducible refine Kd.C_drew ?_)))
                    (case side4 => exact (Kd.R_reads' HO983.out).2.1)
                    rintro e w123 ⟨rfl, hb⟩
                    refine ⟨_, rfl, ?_⟩
                    have n0_ := Aside0.mk (Kd.R_below (by (with_reducible repeat (first | apply Kd.R_alloc | apply Kd.R_drewN | apply Kd.R_drew)); exact HO_8.out) hb)
                    have n1_ := Aside0.mk (Kd.R_below (by (with_reducible repeat (first | apply Kd.R_alloc | apply Kd.R_drewN | apply Kd.R_drew)); exact HO_11.out) hb)
                    have n2_ := Aside0.mk (Kd.R_below (by (with_reducible repeat (first | apply Kd.R_alloc | apply Kd.R_drewN | apply Kd.R_drew)); exact HO_12.out) hb)
                    have n3_ := Aside0.mk (Kd.R_below (by (with_reducible repeat (first | apply Kd.R_alloc | apply Kd.R_drewN | apply Kd.R_drew)); exact HO_13.out) hb)
                    have n4_ := Aside0.mk (Kd.R_below (by (with_reducible repeat (first | apply Kd.R_alloc | apply Kd.R_drewN | apply Kd.R_drew)); exact HO_969001.out) hb)
                    have n5_ := Aside0.mk (Kd.R_below (by (with_reducible repeat (first | apply Kd.R_alloc | apply Kd.R_drewN | apply Kd.R_drew)); exact HO983.out) hb)
                    have n6_ := Aside0.mk (blk_below (g := gb948) (o := .cells #[.int .i64 a0_0, .slice A0_1 l0_1.length c0_1] 24 (0, 0)) (by (with_reducible repeat (first | refine blk_drewN ?_ _ | refine blk_drew ?_ | refine blk_alloc ?_ _)); exact BK948.out) hb)
                    have n7_ := Aside0.mk (blk_below (g := gb968) (o := .cells #[.int .i64 t964, .slice Ao38 t965.length co38] 28 (0, 0)) (by (with_reducible repeat (first | refine blk_drewN ?_ _ | refine blk_drew ?_ | refine blk_alloc ?_ _)); exact BK968.out) hb)
                    have n8_ := Aside0.mk (below_step (by repeat (first | (with_reducible first | exact HB.out | apply below_alloc | apply pw_below_drewN | apply below_drew1 | refine below_set ?_ GE948.out | refine below_set ?_ GE968.out) | exact HB.out)) hb)
                    clear HO_8
                    clear HO_11
                    clear HO_12
                    clear HO_13
                    clear HO_969001
                    clear HO983
                    clear BK948
                    clear BK968
                    clear HB
                    have HO_8 := n0_
                    have HO_11 := n1_
                    have HO_12 := n2_
                    have HO_13 := n3_
                    have HO_969001 := n4_
                    have HO983 := n5_
                    have BK948 := n6_
                    have BK968 := n7_
                    have HB := n8_
                    clear n0_ n1_ n2_ n3_ n4_ n5_ n6_ n7_ n8_
                    (try clear hb)
                    (try clear hb2)
                    (try clear hk)
                    (try clear hi)
                    refine hK.out _ _ ⟨(blk_cell BK968.out 0).trans rfl, (blk_cell BK968.out 1).trans rfl, (blk_cell BK948.out 0).trans rfl, (blk_cell BK948.out 1).trans rfl⟩ (fun hHeld => ?_)
                    clear hK K
                    refine norm_ (a' := ?_) ?_ ?_
                    rotate_left
                    · show Act.put _ (some 66) _ = _
                      simp only [Act.put, List.setIfInBounds_toArray, List.set_cons_zero, List.set_cons_succ, i64_w, i32_w]
                      rfl
                    refine pure_ (i := 4) (N := some 67) (v := ?_) (a' := ?_) #[true, true, true, true, true] rfl rfl (by kernel_rfl) (fun _ _ _ h => h) (Or.inl ⟨by rfl, ?_⟩) ?_ ?_
                    rotate_left
                    · intro w'
                      go_simp
                      with_reducible rfl
                    rotate_left
                    · simp only [Act.put, List.setIfInBounds_toArray, List.set_cons_zero, List.set_cons_succ, i64_w, i32_w]
                      rfl
                    refine done_ (by kernel_rfl) ?_
                    try go_wp2_with (first | ((with_reducible refine gate_callee (f := 21) rfl ?_); refine goesL_ (some 70) rfl rfl Try.func21 (by kernel_rfl) rfl #[.slice A1 l1.length c1] rfl (by (try simp only [List.map_toArray, List.map_cons, List.map_nil]); first | done | rfl | (simp only [List.length_drop, List.length_take]; rfl)) ?_; (with_reducible refine (laws_toIntS.calls kj20 _ _ l1 t985 _ ?side1 ?side2 A55.out).mono ?_); (case side1 => repeat (first | exact (Kd.C_below HR1.out HB.out) | (with_reducible refine Kd.C_alloc ?_ _) | (with_reducible refine Kd.C_drewN ?_ _) | (with_reducible refine Kd.C_drew ?_))); (case side2 => exact HC1.out); rintro e w124 ⟨v986, rfl, ho0, hb⟩; refine ⟨_, rfl, ?_⟩; have n0_ := Aside0.mk (Kd.R_elder' (by (with_reducible repeat (first | apply Kd.R_alloc | apply Kd.R_drewN | apply Kd.R_drew)); exact HO_8.out) (Kd.R_base ho0) hb); have n1_ := Aside0.mk (Kd.R_elder' (by (with_reducible repeat (first | apply Kd.R_alloc | apply Kd.R_drewN | apply Kd.R_drew)); exact HO_11.out) (Kd.R_base ho0) hb); have n2_ := Aside0.mk (Kd.R_elder' (by (with_reducible repeat (first | apply Kd.R_alloc | apply Kd.R_drewN | apply Kd.R_drew)); exact HO_12.out) (Kd.R_base ho0) hb); have n3_ := Aside0.mk (Kd.R_elder' (by (with_reducible repeat (first | apply Kd.R_alloc | apply Kd.R_drewN | apply Kd.R_drew)); exact HO_13.out) (Kd.R_base ho0) hb); have n4_ := Aside0.mk (Kd.R_elder' (by (with_reducible repeat (first | apply Kd.R_alloc | apply Kd.R_drewN | apply Kd.R_drew)); exact HO_969001.out) (Kd.R_base ho0) hb); have n5_ := Aside0.mk (Kd.R_elder' (by (with_reducible repeat (first | apply Kd.R_alloc | apply Kd.R_drewN | apply Kd.R_drew)); exact HO983.out) (Kd.R_base ho0) hb); have n6_ := Aside0.mk (Kd.R_lower (Kd.R_new' (Kd.R_new' (Kd.R_new' (Kd.R_new' (Kd.R_new' (Kd.R_new' ho0 (Kd.R_lt (by (with_reducible repeat (first | apply Kd.R_alloc | apply Kd.R_drewN | apply Kd.R_drew)); exact HO_8.out))) (Kd.R_lt (by (with_reducible repeat (first | apply Kd.R_alloc | apply Kd.R_drewN | apply Kd.R_drew)); exact HO_11.out))) (Kd.R_lt (by (with_reducible repeat (first | apply Kd.R_alloc | apply Kd.R_drewN | apply Kd.R_drew)); exact HO_12.out))) (Kd.R_lt (by (with_reducible repeat (first | apply Kd.R_alloc | apply Kd.R_drewN | apply Kd.R_drew)); exact HO_13.out))) (Kd.R_lt (by (with_reducible repeat (first | apply Kd.R_alloc | apply Kd.R_drewN | apply Kd.R_drew)); exact HO_969001.out))) (Kd.R_lt (by (with_reducible repeat (first | apply Kd.R_alloc | apply Kd.R_drewN | apply Kd.R_drew)); exact HO983.out))) (below_size (by repeat (first | (with_reducible first | exact HB.out | apply below_alloc | apply pw_below_drewN | apply below_drew1 | refine below_set ?_ GE948.out | refine below_set ?_ GE968.out) | exact HB.out)))); have n7_ := Aside0.mk (blk_below (g := gb948) (o := .cells #[.int .i64 a0_0, .slice A0_1 l0_1.length c0_1] 24 (0, 0)) (by (with_reducible repeat (first | refine blk_drewN ?_ _ | refine blk_drew ?_ | refine blk_alloc ?_ _)); exact BK948.out) hb); have n8_ := Aside0.mk (blk_below (g := gb968) (o := .cells #[.int .i64 t964, .slice Ao38 t965.length co38] 28 (0, 0)) (by (with_reducible repeat (first | refine blk_drewN ?_ _ | refine blk_drew ?_ | refine blk_alloc ?_ _)); exact BK968.out) hb); have n9_ := Aside0.mk (below_step (by repeat (first | (with_reducible first | exact HB.out | apply below_alloc | apply pw_below_drewN | apply below_drew1 | refine below_set ?_ GE948.out | refine below_set ?_ GE968.out) | exact HB.out)) hb); clear HO_8; clear HO_11; clear HO_12; clear HO_13; clear HO_969001; clear HO983; clear BK948; clear BK968; clear HB; have HO_8 := n0_; have HO_11 := n1_; have HO_12 := n2_; have HO_13 := n3_; have HO_969001 := n4_; have HO983 := n5_; have HO987 := n6_; have BK948 := n7_; have BK968 := n8_; have HB := n9_; clear n0_ n1_ n2_ n3_ n4_ n5_ n6_ n7_ n8_ n9_; (try clear hb); (try clear hb2); (try clear hk); (try clear hi); (try clear ho0); obtain ⟨Ao125, co125, eo125⟩ := Kd.R_slice HO987.out; subst eo125) | ((with_reducible refine gate_callee (f := 23) rfl ?_); refine goesL_ (some 71) rfl rfl Try.func23 (by kernel_rfl) rfl #[.slice Ao42 t969.length co42, .slice Ao125 t985.length co125] rfl (by (try simp only [List.map_toArray, List.map_cons, List.map_nil]); first | done | rfl | (simp only [List.length_drop, List.length_take]; rfl)) ?_; (with_reducible refine (laws_eqIntS.calls kj20 _ _ t969 _ _ t985 true _ ?side1 ?side2 ?side3 ?side4 A56.out).mono ?_); (case side1 => repeat (first | exact (Kd.R_reads' HO_11.out).2.2 | (with_reducible refine Kd.C_alloc ?_ _) | (with_reducible refine Kd.C_drewN ?_ _) | (with_reducible refine Kd.C_drew ?_))); (case side2 => exact (Kd.R_reads' HO_11.out).2.1); (case side3 => repeat (first | exact (Kd.R_reads' HO987.out).2.2 | (with_reducible refine Kd.C_alloc ?_ _) | (with_reducible refine Kd.C_drewN ?_ _) | (with_reducible refine Kd.C_drew ?_))); (case side4 => exact (Kd.R_reads' HO987.out).2.1); rintro e w' ⟨rfl, ⟨nd, rfl⟩⟩; refine ⟨_, rfl, ?_⟩) | ((with_reducible refine gate_callee (f := 21) rfl ?_); refine goesL_ (some 75) rfl rfl Try.func21 (by kernel_rfl) rfl #[.slice A2 l2.length c2] rfl (by (try simp only [List.map_toArray, List.map_cons, List.map_nil]); first | done | rfl | (simp only [List.length_drop, List.length_take]; rfl)) ?_; (with_reducible refine (laws_toIntS.calls kj20 _ _ l2 t989 _ ?side1 ?side2 A58.out).mono ?_); (case side1 => repeat (first | exact (Kd.C_below HR2.out (by repeat (first | (with_reducible first | exact HB.out | apply below_alloc | apply pw_below_drewN | apply below_drew1 | refine below_set ?_ GE948.out | refine below_set ?_ GE968.out) | exact HB.out))) | (with_reducible refine Kd.C_alloc ?_ _) | (with_reducible refine Kd.C_drewN ?_ _) | (with_reducible refine Kd.C_drew ?_))); (case side2 => exact HC2.out); rintro e w126 ⟨v990, rfl, ho0, hb⟩; refine ⟨_, rfl, ?_⟩; have n0_ := Aside0.mk (Kd.R_elder' (by (with_reducible repeat (first | apply Kd.R_alloc | apply Kd.R_drewN | apply Kd.R_drew)); exact HO_8.out) (Kd.R_base ho0) hb); have n1_ := Aside0.mk (Kd.R_elder' (by (with_reducible repeat (first | apply Kd.R_alloc | apply Kd.R_drewN | apply Kd.R_drew)); exact HO_11.out) (Kd.R_base ho0) hb); have n2_ := Aside0.mk (Kd.R_elder' (by (with_reducible repeat (first | apply Kd.R_alloc | apply Kd.R_drewN | apply Kd.R_drew)); exact HO_12.out) (Kd.R_base ho0) hb); have n3_ := Aside0.mk (Kd.R_elder' (by (with_reducible repeat (first | apply Kd.R_alloc | apply Kd.R_drewN | apply Kd.R_drew)); exact HO_13.out) (Kd.R_base ho0) hb); have n4_ := Aside0.mk (Kd.R_elder' (by (with_reducible repeat (first | apply Kd.R_alloc | apply Kd.R_drewN | apply Kd.R_drew)); exact HO_969001.out) (Kd.R_base ho0) hb); have n5_ := Aside0.mk (Kd.R_elder' (by (with_reducible repeat (first | apply Kd.R_alloc | apply Kd.R_drewN | apply Kd.R_drew)); exact HO983.out) (Kd.R_base ho0) hb); have n6_ := Aside0.mk (Kd.R_elder' (by (with_reducible repeat (first | apply Kd.R_alloc | apply Kd.R_drewN | apply Kd.R_drew)); exact HO987.out) (Kd.R_base ho0) hb); have n7_ := Aside0.mk (Kd.R_lower (Kd.R_new' (Kd.R_new' (Kd.R_new' (Kd.R_new' (Kd.R_new' (Kd.R_new' (Kd.R_new' ho0 (Kd.R_lt (by (with_reducible repeat (first | apply Kd.R_alloc | apply Kd.R_drewN | apply Kd.R_drew)); exact HO_8.out))) (Kd.R_lt (by (with_reducible repeat (first | apply Kd.R_alloc | apply Kd.R_drewN | apply Kd.R_drew)); exact HO_11.out))) (Kd.R_lt (by (with_reducible repeat (first | apply Kd.R_alloc | apply Kd.R_drewN | apply Kd.R_drew)); exact HO_12.out))) (Kd.R_lt (by (with_reducible repeat (first | apply Kd.R_alloc | apply Kd.R_drewN | apply Kd.R_drew)); exact HO_13.out))) (Kd.R_lt (by (with_reducible repeat (first | apply Kd.R_alloc | apply Kd.R_drewN | apply Kd.R_drew)); exact HO_969001.out))) (Kd.R_lt (by (with_reducible repeat (first | apply Kd.R_alloc | apply Kd.R_drewN | apply Kd.R_drew)); exact HO983.out))) (Kd.R_lt (by (with_reducible repeat (first | apply Kd.R_alloc | apply Kd.R_drewN | apply Kd.R_drew)); exact HO987.out))) (below_size (by repeat (first | (with_reducible first | exact HB.out | apply below_alloc | apply pw_below_drewN | apply below_drew1 | refine below_set ?_ GE948.out | refine below_set ?_ GE968.out) | exact HB.out)))); have n8_ := Aside0.mk (blk_below (g := gb948) (o := .cells #[.int .i64 a0_0, .slice A0_1 l0_1.length c0_1] 24 (0, 0)) (by (with_reducible repeat (first | refine blk_drewN ?_ _ | refine blk_drew ?_ | refine blk_alloc ?_ _)); exact BK948.out) hb); have n9_ := Aside0.mk (blk_below (g := gb968) (o := .cells #[.int .i64 t964, .slice Ao38 t965.length co38] 28 (0, 0)) (by (with_reducible repeat (first | refine blk_drewN ?_ _ | refine blk_drew ?_ | refine blk_alloc ?_ _)); exact BK968.out) hb); have n10_ := Aside0.mk (below_step (by repeat (first | (with_reducible first | exact HB.out | apply below_alloc | apply pw_below_drewN | apply below_drew1 | refine below_set ?_ GE948.out | refine below_set ?_ GE968.out) | exact HB.out)) hb); clear HO_8; clear HO_11; clear HO_12; clear HO_13; clear HO_969001; clear HO983; clear HO987; clear BK948; clear BK968; clear HB; have HO_8 := n0_; have HO_11 := n1_; have HO_12 := n2_; have HO_13 := n3_; have HO_969001 := n4_; have HO983 := n5_; have HO987 := n6_; have HO991 := n7_; have BK948 := n8_; have BK968 := n9_; have HB := n10_; clear n0_ n1_ n2_ n3_ n4_ n5_ n6_ n7_ n8_ n9_ n10_; (try clear hb); (try clear hb2); (try clear hk); (try clear hi); (try clear ho0); obtain ⟨Ao127, co127, eo127⟩ := Kd.R_slice HO991.out; subst eo127) | ((with_reducible refine gate_callee (f := 23) rfl ?_); refine goesL_ (some 76) rfl rfl Try.func23 (by kernel_rfl) rfl #[.slice Ao43 t972.length co43, .slice Ao127 t989.length co127] rfl (by (try simp only [List.map_toArray, List.map_cons, List.map_nil]); first | done | rfl | (simp only [List.length_drop, List.length_take]; rfl)) ?_; (with_reducible refine (laws_eqIntS.calls kj20 _ _ t972 _ _ t989 false _ ?side1 ?side2 ?side3 ?side4 A59.out).mono ?_); (case side1 => repeat (first | exact (Kd.R_reads' HO_12.out).2.2 | (with_reducible refine Kd.C_alloc ?_ _) | (with_reducible refine Kd.C_drewN ?_ _) | (with_reducible refine Kd.C_drew ?_))); (case side2 => exact (Kd.R_reads' HO_12.out).2.1); (case side3 => repeat (first | exact (Kd.R_reads' HO991.out).2.2 | (with_reducible refine Kd.C_alloc ?_ _) | (with_reducible refine Kd.C_drewN ?_ _) | (with_reducible refine Kd.C_drew ?_))); (case side4 => exact (Kd.R_reads' HO991.out).2.1); rintro e w' ⟨rfl, ⟨nd, rfl⟩⟩; refine ⟨_, rfl, ?_⟩))
                    go_ret
                    exact ⟨by first | rfl | (simp [errW_none, errW_some] <;> rfl) | (simp [*, errW_none, errW_some] <;> rfl), by repeat (first | (with_reducible first | exact HB.out | apply below_alloc | apply pw_below_drewN | apply below_drew1 | refine below_set ?_ GE948.out | refine below_set ?_ GE968.out) | exact HB.out)⟩
                · replace c57 := Bool.eq_false_iff.mpr c57
                  subst c57
                  have H1 : (some false) = some r := by rw [if_neg (show ¬ (false = true) by decide)] at H; exact H
                  clear H
                  have H := H1
                  clear H1
                  obtain rfl := Option.some.inj H
                  try go_wp2
                  have n0_ := Aside0.mk (Kd.R_drew HO_8.out)
                  have n1_ := Aside0.mk (Kd.R_drew HO_11.out)
                  have n2_ := Aside0.mk (Kd.R_drew HO_12.out)
                  have n3_ := Aside0.mk (Kd.R_drew HO_13.out)
                  have n4_ := Aside0.mk (Kd.R_drew HO_969001.out)
                  have n5_ := Aside0.mk (blk_drew BK948.out)
                  have n6_ := Aside0.mk (blk_drew BK968.out)
                  have n7_ := Aside0.mk (below_drew1 HB.out)
                  clear HO_8
                  clear HO_11
                  clear HO_12
                  clear HO_13
                  clear HO_969001
                  clear BK948
                  clear BK968
                  clear HB
                  have HO_8 := n0_
                  have HO_11 := n1_
                  have HO_12 := n2_
                  have HO_13 := n3_
                  have HO_969001 := n4_
                  have BK948 := n5_
                  have BK968 := n6_
                  have HB := n7_
                  clear n0_ n1_ n2_ n3_ n4_ n5_ n6_ n7_
                  refine start_ (n := 5) (S := fun w' => w'.cell? ⟨gb968, 0, none⟩ = some (.int .i64 t964) ∧ w'.cell? ⟨gb968, 1, none⟩ = some (.slice Ao38 t965.length co38) ∧ w'.cell? ⟨gb948, 0, none⟩ = some (.int .i64 a0_0) ∧ w'.cell? ⟨gb948, 1, none⟩ = some (.slice A0_1 l0_1.length c0_1)) (ds := []) #[false, false, false, false, false] (by kernel_rfl) rfl rfl ⟨(blk_cell BK968.out 0).trans rfl, (blk_cell BK968.out 1).trans rfl, (blk_cell BK948.out 0).trans rfl, (blk_cell BK948.out 1).trans rfl⟩ (fun hHeld => ?_)
                  generalize wc.drew = w128 at HO_8 HO_11 HO_12 HO_13 HO_969001 BK948 BK968 HB hHeld ⊢
                  refine take_ (i := 0) (N := some 63) (v := ?_) (a' := ?_) #[true, false, false, false, false] rfl rfl (by kernel_rfl) (fun _ _ _ h => h) (Or.inl ⟨by rfl, ?_⟩) hHeld ?_ ?_
                  rotate_left
                  · rintro w' ⟨s0, s1, s2, s3⟩
                    go_simp
                    with_reducible rfl
                  rotate_left
                  · simp only [Act.put, List.setIfInBounds_toArray, List.set_cons_zero, List.set_cons_succ, i64_w, i32_w]
                    rfl
                  refine take_ (i := 1) (N := some 64) (v := ?_) (a' := ?_) #[true, true, false, false, false] rfl rfl (by kernel_rfl) (fun _ _ _ h => h) (Or.inl ⟨by rfl, ?_⟩) hHeld ?_ ?_
                  rotate_left
                  · rintro w' ⟨s0, s1, s2, s3⟩
                    go_simp
                    with_reducible rfl
                  rotate_left
                  · simp only [Act.put, List.setIfInBounds_toArray, List.set_cons_zero, List.set_cons_succ, i64_w, i32_w]
                    rfl
                  refine one_ (i := 2) (N := some 65) #[true, true, true, false, false] rfl rfl (by kernel_rfl) (by decide) (fun K hK => ?_)
                  refine goes_ Try.func17 (by kernel_rfl) rfl #[.agg #[.int .i64 a0_0, .slice A0_1 l0_1.length c0_1]] (by rfl) rfl rfl (by (try simp only [List.map_toArray, List.map_cons, List.map_nil]); first | done | rfl | (simp only [List.length_drop, List.length_take]; rfl)) ?_
                  with_reducible refine (laws_toSpace.calls kj20 a0_0 _ _ l0_1 t980 t981 _ ?side1 ?side2 A52.out).mono ?_
                  (case side1 => repeat (first | exact (Kd.C_below HR0_1.out HB.out) | (with_reducible refine Kd.C_alloc ?_ _) | (with_reducible refine Kd.C_drewN ?_ _) | (with_reducible refine Kd.C_drew ?_)))
                  (case side2 => exact HC0_1.out)
                  rintro e w129 ⟨v982, rfl, ho0, hb⟩
                  refine ⟨_, rfl, ?_⟩
                  have n0_ := Aside0.mk (Kd.R_elder' (by (with_reducible repeat (first | apply Kd.R_alloc | apply Kd.R_drewN | apply Kd.R_drew)); exact HO_8.out) (Kd.R_base ho0) hb)
                  have n1_ := Aside0.mk (Kd.R_elder' (by (with_reducible repeat (first | apply Kd.R_alloc | apply Kd.R_drewN | apply Kd.R_drew)); exact HO_11.out) (Kd.R_base ho0) hb)
                  have n2_ := Aside0.mk (Kd.R_elder' (by (with_reducible repeat (first | apply Kd.R_alloc | apply Kd.R_drewN | apply Kd.R_drew)); exact HO_12.out) (Kd.R_base ho0) hb)
                  have n3_ := Aside0.mk (Kd.R_elder' (by (with_reducible repeat (first | apply Kd.R_alloc | apply Kd.R_drewN | apply Kd.R_drew)); exact HO_13.out) (Kd.R_base ho0) hb)
                  have n4_ := Aside0.mk (Kd.R_elder' (by (with_reducible repeat (first | apply Kd.R_alloc | apply Kd.R_drewN | apply Kd.R_drew)); exact HO_969001.out) (Kd.R_base ho0) hb)
                  have n5_ := Aside0.mk (Kd.R_lower (Kd.R_new' (Kd.R_new' (Kd.R_new' (Kd.R_new' (Kd.R_new' ho0 (Kd.R_lt (by (with_reducible repeat (first | apply Kd.R_alloc | apply Kd.R_drewN | apply Kd.R_drew)); exact HO_8.out))) (Kd.R_lt (by (with_reducible repeat (first | apply Kd.R_alloc | apply Kd.R_drewN | apply Kd.R_drew)); exact HO_11.out))) (Kd.R_lt (by (with_reducible repeat (first | apply Kd.R_alloc | apply Kd.R_drewN | apply Kd.R_drew)); exact HO_12.out))) (Kd.R_lt (by (with_reducible repeat (first | apply Kd.R_alloc | apply Kd.R_drewN | apply Kd.R_drew)); exact HO_13.out))) (Kd.R_lt (by (with_reducible repeat (first | apply Kd.R_alloc | apply Kd.R_drewN | apply Kd.R_drew)); exact HO_969001.out))) (below_size (by repeat (first | (with_reducible first | exact HB.out | apply below_alloc | apply pw_below_drewN | apply below_drew1 | refine below_set ?_ GE948.out | refine below_set ?_ GE968.out) | exact HB.out))))
                  have n6_ := Aside0.mk (blk_below (g := gb948) (o := .cells #[.int .i64 a0_0, .slice A0_1 l0_1.length c0_1] 24 (0, 0)) (by (with_reducible repeat (first | refine blk_drewN ?_ _ | refine blk_drew ?_ | refine blk_alloc ?_ _)); exact BK948.out) hb)
                  have n7_ := Aside0.mk (blk_below (g := gb968) (o := .cells #[.int .i64 t964, .slice Ao38 t965.length co38] 28 (0, 0)) (by (with_reducible repeat (first | refine blk_drewN ?_ _ | refine blk_drew ?_ | refine blk_alloc ?_ _)); exact BK968.out) hb)
                  have n8_ := Aside0.mk (below_step (by repeat (first | (with_reducible first | exact HB.out | apply below_alloc | apply pw_below_drewN | apply below_drew1 | refine below_set ?_ GE948.out | refine below_set ?_ GE968.out) | exact HB.out)) hb)
                  clear HO_8
                  clear HO_11
                  clear HO_12
                  clear HO_13
                  clear HO_969001
                  clear BK948
                  clear BK968
                  clear HB
                  have HO_8 := n0_
                  have HO_11 := n1_
                  have HO_12 := n2_
                  have HO_13 := n3_
                  have HO_969001 := n4_
                  have HO983 := n5_
                  have BK948 := n6_
                  have BK968 := n7_
                  have HB := n8_
                  clear n0_ n1_ n2_ n3_ n4_ n5_ n6_ n7_ n8_
                  (try clear hb)
                  (try clear hb2)
                  (try clear hk)
                  (try clear hi)
                  (try clear ho0)
                  obtain ⟨Ao130, co130, eo130⟩ := Kd.R_slice HO983.out
                  (first | subst eo130 | (injection eo130 with f1_ f2_ f3_; have f4_ := f1_.symm; have f5_ := f3_.symm; clear f1_ f2_ f3_; subst f4_; subst f5_))
                  refine hK.out _ _ ⟨(blk_cell BK968.out 0).trans rfl, (blk_cell BK968.out 1).trans rfl, (blk_cell BK948.out 0).trans rfl, (blk_cell BK948.out 1).trans rfl⟩ (fun hHeld => ?_)
                  clear hK K
                  refine norm_ (a' := ?_) ?_ ?_
                  rotate_left
                  · show Act.put _ (some 65) _ = _
                    simp only [Act.put, List.setIfInBounds_toArray, List.set_cons_zero, List.set_cons_succ, i64_w, i32_w]
                    rfl
                  refine one_ (i := 3) (N := some 66) #[true, true, true, true, false] rfl rfl (by kernel_rfl) (by decide) (fun K hK => ?_)
                  refine goes_ Try.func19 (by kernel_rfl) rfl #[.agg #[.int .i64 t964, .slice Ao38 t965.length co38], .agg #[.int .i64 t980, .slice Ao130 t981.length co130]] (by rfl) rfl rfl (by (try simp only [List.map_toArray, List.map_cons, List.map_nil]); first | done | rfl | (simp only [List.length_drop, List.length_take]; rfl)) ?_
                  with_reducible refine (laws_eqSpace.calls kj20 t964 _ _ t965 t980 _ _ t981 true _ ?side1 ?side2 ?side3 ?side4 A53.out).mono ?_
                  (case side1 => repeat (first | exact (Kd.R_reads' HO_969001.out).2.2 | (with_reducible refine Kd.C_alloc ?_ _) | (with_reducible refine Kd.C_drewN ?_ _) | (with_reducible refine Kd.C_drew ?_)))
                  (case side2 => exact (Kd.R_reads' HO_969001.out).2.1)
                  (case side3 => repeat (first | exact (Kd.R_reads' HO983.out).2.2 | (with_reducible refine Kd.C_alloc ?_ _) | (with_reducible refine Kd.C_drewN ?_ _) | (with_reducible refine Kd.C_drew ?_)))
                  (case side4 => exact (Kd.R_reads' HO983.out).2.1)
                  rintro e w131 ⟨rfl, hb⟩
                  refine ⟨_, rfl, ?_⟩
                  have n0_ := Aside0.mk (Kd.R_below (by (with_reducible repeat (first | apply Kd.R_alloc | apply Kd.R_drewN | apply Kd.R_drew)); exact HO_8.out) hb)
                  have n1_ := Aside0.mk (Kd.R_below (by (with_reducible repeat (first | apply Kd.R_alloc | apply Kd.R_drewN | apply Kd.R_drew)); exact HO_11.out) hb)
                  have n2_ := Aside0.mk (Kd.R_below (by (with_reducible repeat (first | apply Kd.R_alloc | apply Kd.R_drewN | apply Kd.R_drew)); exact HO_12.out) hb)
                  have n3_ := Aside0.mk (Kd.R_below (by (with_reducible repeat (first | apply Kd.R_alloc | apply Kd.R_drewN | apply Kd.R_drew)); exact HO_13.out) hb)
                  have n4_ := Aside0.mk (Kd.R_below (by (with_reducible repeat (first | apply Kd.R_alloc | apply Kd.R_drewN | apply Kd.R_drew)); exact HO_969001.out) hb)
                  have n5_ := Aside0.mk (Kd.R_below (by (with_reducible repeat (first | apply Kd.R_alloc | apply Kd.R_drewN | apply Kd.R_drew)); exact HO983.out) hb)
                  have n6_ := Aside0.mk (blk_below (g := gb948) (o := .cells #[.int .i64 a0_0, .slice A0_1 l0_1.length c0_1] 24 (0, 0)) (by (with_reducible repeat (first | refine blk_drewN ?_ _ | refine blk_drew ?_ | refine blk_alloc ?_ _)); exact BK948.out) hb)
                  have n7_ := Aside0.mk (blk_below (g := gb968) (o := .cells #[.int .i64 t964, .slice Ao38 t965.length co38] 28 (0, 0)) (by (with_reducible repeat (first | refine blk_drewN ?_ _ | refine blk_drew ?_ | refine blk_alloc ?_ _)); exact BK968.out) hb)
                  have n8_ := Aside0.mk (below_step (by repeat (first | (with_reducible first | exact HB.out | apply below_alloc | apply pw_below_drewN | apply below_drew1 | refine below_set ?_ GE948.out | refine below_set ?_ GE968.out) | exact HB.out)) hb)
                  clear HO_8
                  clear HO_11
                  clear HO_12
                  clear HO_13
                  clear HO_969001
                  clear HO983
                  clear BK948
                  clear BK968
                  clear HB
                  have HO_8 := n0_
                  have HO_11 := n1_
                  have HO_12 := n2_
                  have HO_13 := n3_
                  have HO_969001 := n4_
                  have HO983 := n5_
                  have BK948 := n6_
                  have BK968 := n7_
                  have HB := n8_
                  clear n0_ n1_ n2_ n3_ n4_ n5_ n6_ n7_ n8_
                  (try clear hb)
                  (try clear hb2)
                  (try clear hk)
                  (try clear hi)
                  refine hK.out _ _ ⟨(blk_cell BK968.out 0).trans rfl, (blk_cell BK968.out 1).trans rfl, (blk_cell BK948.out 0).trans rfl, (blk_cell BK948.out 1).trans rfl⟩ (fun hHeld => ?_)
                  clear hK K
                  refine norm_ (a' := ?_) ?_ ?_
                  rotate_left
                  · show Act.put _ (some 66) _ = _
                    simp only [Act.put, List.setIfInBounds_toArray, List.set_cons_zero, List.set_cons_succ, i64_w, i32_w]
                    rfl
                  refine pure_ (i := 4) (N := some 67) (v := ?_) (a' := ?_) #[true, true, true, true, true] rfl rfl (by kernel_rfl) (fun _ _ _ h => h) (Or.inl ⟨by rfl, ?_⟩) ?_ ?_
                  rotate_left
                  · intro w'
                    go_simp
                    with_reducible rfl
                  rotate_left
                  · simp only [Act.put, List.setIfInBounds_toArray, List.set_cons_zero, List.set_cons_succ, i64_w, i32_w]
                    rfl
                  refine done_ (by kernel_rfl) ?_
                  try go_wp2_with (first | ((with_reducible refine gate_callee (f := 21) rfl ?_); refine goesL_ (some 70) rfl rfl Try.func21 (by kernel_rfl) rfl #[.slice A1 l1.length c1] rfl (by (try simp only [List.map_toArray, List.map_cons, List.map_nil]); first | done | rfl | (simp only [List.length_drop, List.length_take]; rfl)) ?_; (with_reducible refine (laws_toIntS.calls kj20 _ _ l1 t985 _ ?side1 ?side2 A55.out).mono ?_); (case side1 => repeat (first | exact (Kd.C_below HR1.out HB.out) | (with_reducible refine Kd.C_alloc ?_ _) | (with_reducible refine Kd.C_drewN ?_ _) | (with_reducible refine Kd.C_drew ?_))); (case side2 => exact HC1.out); rintro e w132 ⟨v986, rfl, ho0, hb⟩; refine ⟨_, rfl, ?_⟩; have n0_ := Aside0.mk (Kd.R_elder' (by (with_reducible repeat (first | apply Kd.R_alloc | apply Kd.R_drewN | apply Kd.R_drew)); exact HO_8.out) (Kd.R_base ho0) hb); have n1_ := Aside0.mk (Kd.R_elder' (by (with_reducible repeat (first | apply Kd.R_alloc | apply Kd.R_drewN | apply Kd.R_drew)); exact HO_11.out) (Kd.R_base ho0) hb); have n2_ := Aside0.mk (Kd.R_elder' (by (with_reducible repeat (first | apply Kd.R_alloc | apply Kd.R_drewN | apply Kd.R_drew)); exact HO_12.out) (Kd.R_base ho0) hb); have n3_ := Aside0.mk (Kd.R_elder' (by (with_reducible repeat (first | apply Kd.R_alloc | apply Kd.R_drewN | apply Kd.R_drew)); exact HO_13.out) (Kd.R_base ho0) hb); have n4_ := Aside0.mk (Kd.R_elder' (by (with_reducible repeat (first | apply Kd.R_alloc | apply Kd.R_drewN | apply Kd.R_drew)); exact HO_969001.out) (Kd.R_base ho0) hb); have n5_ := Aside0.mk (Kd.R_elder' (by (with_reducible repeat (first | apply Kd.R_alloc | apply Kd.R_drewN | apply Kd.R_drew)); exact HO983.out) (Kd.R_base ho0) hb); have n6_ := Aside0.mk (Kd.R_lower (Kd.R_new' (Kd.R_new' (Kd.R_new' (Kd.R_new' (Kd.R_new' (Kd.R_new' ho0 (Kd.R_lt (by (with_reducible repeat (first | apply Kd.R_alloc | apply Kd.R_drewN | apply Kd.R_drew)); exact HO_8.out))) (Kd.R_lt (by (with_reducible repeat (first | apply Kd.R_alloc | apply Kd.R_drewN | apply Kd.R_drew)); exact HO_11.out))) (Kd.R_lt (by (with_reducible repeat (first | apply Kd.R_alloc | apply Kd.R_drewN | apply Kd.R_drew)); exact HO_12.out))) (Kd.R_lt (by (with_reducible repeat (first | apply Kd.R_alloc | apply Kd.R_drewN | apply Kd.R_drew)); exact HO_13.out))) (Kd.R_lt (by (with_reducible repeat (first | apply Kd.R_alloc | apply Kd.R_drewN | apply Kd.R_drew)); exact HO_969001.out))) (Kd.R_lt (by (with_reducible repeat (first | apply Kd.R_alloc | apply Kd.R_drewN | apply Kd.R_drew)); exact HO983.out))) (below_size (by repeat (first | (with_reducible first | exact HB.out | apply below_alloc | apply pw_below_drewN | apply below_drew1 | refine below_set ?_ GE948.out | refine below_set ?_ GE968.out) | exact HB.out)))); have n7_ := Aside0.mk (blk_below (g := gb948) (o := .cells #[.int .i64 a0_0, .slice A0_1 l0_1.length c0_1] 24 (0, 0)) (by (with_reducible repeat (first | refine blk_drewN ?_ _ | refine blk_drew ?_ | refine blk_alloc ?_ _)); exact BK948.out) hb); have n8_ := Aside0.mk (blk_below (g := gb968) (o := .cells #[.int .i64 t964, .slice Ao38 t965.length co38] 28 (0, 0)) (by (with_reducible repeat (first | refine blk_drewN ?_ _ | refine blk_drew ?_ | refine blk_alloc ?_ _)); exact BK968.out) hb); have n9_ := Aside0.mk (below_step (by repeat (first | (with_reducible first | exact HB.out | apply below_alloc | apply pw_below_drewN | apply below_drew1 | refine below_set ?_ GE948.out | refine below_set ?_ GE968.out) | exact HB.out)) hb); clear HO_8; clear HO_11; clear HO_12; clear HO_13; clear HO_969001; clear HO983; clear BK948; clear BK968; clear HB; have HO_8 := n0_; have HO_11 := n1_; have HO_12 := n2_; have HO_13 := n3_; have HO_969001 := n4_; have HO983 := n5_; have HO987 := n6_; have BK948 := n7_; have BK968 := n8_; have HB := n9_; clear n0_ n1_ n2_ n3_ n4_ n5_ n6_ n7_ n8_ n9_; (try clear hb); (try clear hb2); (try clear hk); (try clear hi); (try clear ho0); obtain ⟨Ao133, co133, eo133⟩ := Kd.R_slice HO987.out; subst eo133) | ((with_reducible refine gate_callee (f := 23) rfl ?_); refine goesL_ (some 71) rfl rfl Try.func23 (by kernel_rfl) rfl #[.slice Ao42 t969.length co42, .slice Ao133 t985.length co133] rfl (by (try simp only [List.map_toArray, List.map_cons, List.map_nil]); first | done | rfl | (simp only [List.length_drop, List.length_take]; rfl)) ?_; (with_reducible refine (laws_eqIntS.calls kj20 _ _ t969 _ _ t985 false _ ?side1 ?side2 ?side3 ?side4 A56.out).mono ?_); (case side1 => repeat (first | exact (Kd.R_reads' HO_11.out).2.2 | (with_reducible refine Kd.C_alloc ?_ _) | (with_reducible refine Kd.C_drewN ?_ _) | (with_reducible refine Kd.C_drew ?_))); (case side2 => exact (Kd.R_reads' HO_11.out).2.1); (case side3 => repeat (first | exact (Kd.R_reads' HO987.out).2.2 | (with_reducible refine Kd.C_alloc ?_ _) | (with_reducible refine Kd.C_drewN ?_ _) | (with_reducible refine Kd.C_drew ?_))); (case side4 => exact (Kd.R_reads' HO987.out).2.1); rintro e w' ⟨rfl, ⟨nd, rfl⟩⟩; refine ⟨_, rfl, ?_⟩))
                  go_ret
                  exact ⟨by first | rfl | (simp [errW_none, errW_some] <;> rfl) | (simp [*, errW_none, errW_some] <;> rfl), by repeat (first | (with_reducible first | exact HB.out | apply below_alloc | apply pw_below_drewN | apply below_drew1 | refine below_set ?_ GE948.out | refine below_set ?_ GE968.out) | exact HB.out)⟩
              · replace c54 := Bool.eq_false_iff.mpr c54
                subst c54
                have H1 : (some false) = some r := by rw [if_neg (show ¬ (false = true) by decide)] at H; exact H
                clear H
                have H := H1
                clear H1
                obtain rfl := Option.some.inj H
                try go_wp2
                have n0_ := Aside0.mk (Kd.R_drew HO_8.out)
                have n1_ := Aside0.mk (Kd.R_drew HO_11.out)
                have n2_ := Aside0.mk (Kd.R_drew HO_12.out)
                have n3_ := Aside0.mk (Kd.R_drew HO_13.out)
                have n4_ := Aside0.mk (Kd.R_drew HO_969001.out)
                have n5_ := Aside0.mk (blk_drew BK948.out)
                have n6_ := Aside0.mk (blk_drew BK968.out)
                have n7_ := Aside0.mk (below_drew1 HB.out)
                clear HO_8
                clear HO_11
                clear HO_12
                clear HO_13
                clear HO_969001
                clear BK948
                clear BK968
                clear HB
                have HO_8 := n0_
                have HO_11 := n1_
                have HO_12 := n2_
                have HO_13 := n3_
                have HO_969001 := n4_
                have BK948 := n5_
                have BK968 := n6_
                have HB := n7_
                clear n0_ n1_ n2_ n3_ n4_ n5_ n6_ n7_
                refine start_ (n := 5) (S := fun w' => w'.cell? ⟨gb968, 0, none⟩ = some (.int .i64 t964) ∧ w'.cell? ⟨gb968, 1, none⟩ = some (.slice Ao38 t965.length co38) ∧ w'.cell? ⟨gb948, 0, none⟩ = some (.int .i64 a0_0) ∧ w'.cell? ⟨gb948, 1, none⟩ = some (.slice A0_1 l0_1.length c0_1)) (ds := []) #[false, false, false, false, false] (by kernel_rfl) rfl rfl ⟨(blk_cell BK968.out 0).trans rfl, (blk_cell BK968.out 1).trans rfl, (blk_cell BK948.out 0).trans rfl, (blk_cell BK948.out 1).trans rfl⟩ (fun hHeld => ?_)
                generalize wc.drew = w134 at HO_8 HO_11 HO_12 HO_13 HO_969001 BK948 BK968 HB hHeld ⊢
                refine take_ (i := 0) (N := some 63) (v := ?_) (a' := ?_) #[true, false, false, false, false] rfl rfl (by kernel_rfl) (fun _ _ _ h => h) (Or.inl ⟨by rfl, ?_⟩) hHeld ?_ ?_
                rotate_left
                · rintro w' ⟨s0, s1, s2, s3⟩
                  go_simp
                  with_reducible rfl
                rotate_left
                · simp only [Act.put, List.setIfInBounds_toArray, List.set_cons_zero, List.set_cons_succ, i64_w, i32_w]
                  rfl
                refine take_ (i := 1) (N := some 64) (v := ?_) (a' := ?_) #[true, true, false, false, false] rfl rfl (by kernel_rfl) (fun _ _ _ h => h) (Or.inl ⟨by rfl, ?_⟩) hHeld ?_ ?_
                rotate_left
                · rintro w' ⟨s0, s1, s2, s3⟩
                  go_simp
                  with_reducible rfl
                rotate_left
                · simp only [Act.put, List.setIfInBounds_toArray, List.set_cons_zero, List.set_cons_succ, i64_w, i32_w]
                  rfl
                refine one_ (i := 2) (N := some 65) #[true, true, true, false, false] rfl rfl (by kernel_rfl) (by decide) (fun K hK => ?_)
                refine goes_ Try.func17 (by kernel_rfl) rfl #[.agg #[.int .i64 a0_0, .slice A0_1 l0_1.length c0_1]] (by rfl) rfl rfl (by (try simp only [List.map_toArray, List.map_cons, List.map_nil]); first | done | rfl | (simp only [List.length_drop, List.length_take]; rfl)) ?_
                with_reducible refine (laws_toSpace.calls kj20 a0_0 _ _ l0_1 t980 t981 _ ?side1 ?side2 A52.out).mono ?_
                (case side1 => repeat (first | exact (Kd.C_below HR0_1.out HB.out) | (with_reducible refine Kd.C_alloc ?_ _) | (with_reducible refine Kd.C_drewN ?_ _) | (with_reducible refine Kd.C_drew ?_)))
                (case side2 => exact HC0_1.out)
                rintro e w135 ⟨v982, rfl, ho0, hb⟩
                refine ⟨_, rfl, ?_⟩
                have n0_ := Aside0.mk (Kd.R_elder' (by (with_reducible repeat (first | apply Kd.R_alloc | apply Kd.R_drewN | apply Kd.R_drew)); exact HO_8.out) (Kd.R_base ho0) hb)
                have n1_ := Aside0.mk (Kd.R_elder' (by (with_reducible repeat (first | apply Kd.R_alloc | apply Kd.R_drewN | apply Kd.R_drew)); exact HO_11.out) (Kd.R_base ho0) hb)
                have n2_ := Aside0.mk (Kd.R_elder' (by (with_reducible repeat (first | apply Kd.R_alloc | apply Kd.R_drewN | apply Kd.R_drew)); exact HO_12.out) (Kd.R_base ho0) hb)
                have n3_ := Aside0.mk (Kd.R_elder' (by (with_reducible repeat (first | apply Kd.R_alloc | apply Kd.R_drewN | apply Kd.R_drew)); exact HO_13.out) (Kd.R_base ho0) hb)
                have n4_ := Aside0.mk (Kd.R_elder' (by (with_reducible repeat (first | apply Kd.R_alloc | apply Kd.R_drewN | apply Kd.R_drew)); exact HO_969001.out) (Kd.R_base ho0) hb)
                have n5_ := Aside0.mk (Kd.R_lower (Kd.R_new' (Kd.R_new' (Kd.R_new' (Kd.R_new' (Kd.R_new' ho0 (Kd.R_lt (by (with_reducible repeat (first | apply Kd.R_alloc | apply Kd.R_drewN | apply Kd.R_drew)); exact HO_8.out))) (Kd.R_lt (by (with_reducible repeat (first | apply Kd.R_alloc | apply Kd.R_drewN | apply Kd.R_drew)); exact HO_11.out))) (Kd.R_lt (by (with_reducible repeat (first | apply Kd.R_alloc | apply Kd.R_drewN | apply Kd.R_drew)); exact HO_12.out))) (Kd.R_lt (by (with_reducible repeat (first | apply Kd.R_alloc | apply Kd.R_drewN | apply Kd.R_drew)); exact HO_13.out))) (Kd.R_lt (by (with_reducible repeat (first | apply Kd.R_alloc | apply Kd.R_drewN | apply Kd.R_drew)); exact HO_969001.out))) (below_size (by repeat (first | (with_reducible first | exact HB.out | apply below_alloc | apply pw_below_drewN | apply below_drew1 | refine below_set ?_ GE948.out | refine below_set ?_ GE968.out) | exact HB.out))))
                have n6_ := Aside0.mk (blk_below (g := gb948) (o := .cells #[.int .i64 a0_0, .slice A0_1 l0_1.length c0_1] 24 (0, 0)) (by (with_reducible repeat (first | refine blk_drewN ?_ _ | refine blk_drew ?_ | refine blk_alloc ?_ _)); exact BK948.out) hb)
                have n7_ := Aside0.mk (blk_below (g := gb968) (o := .cells #[.int .i64 t964, .slice Ao38 t965.length co38] 28 (0, 0)) (by (with_reducible repeat (first | refine blk_drewN ?_ _ | refine blk_drew ?_ | refine blk_alloc ?_ _)); exact BK968.out) hb)
                have n8_ := Aside0.mk (below_step (by repeat (first | (with_reducible first | exact HB.out | apply below_alloc | apply pw_below_drewN | apply below_drew1 | refine below_set ?_ GE948.out | refine below_set ?_ GE968.out) | exact HB.out)) hb)
                clear HO_8
                clear HO_11
                clear HO_12
                clear HO_13
                clear HO_969001
                clear BK948
                clear BK968
                clear HB
                have HO_8 := n0_
                have HO_11 := n1_
                have HO_12 := n2_
                have HO_13 := n3_
                have HO_969001 := n4_
                have HO983 := n5_
                have BK948 := n6_
                have BK968 := n7_
                have HB := n8_
                clear n0_ n1_ n2_ n3_ n4_ n5_ n6_ n7_ n8_
                (try clear hb)
                (try clear hb2)
                (try clear hk)
                (try clear hi)
                (try clear ho0)
                obtain ⟨Ao136, co136, eo136⟩ := Kd.R_slice HO983.out
                (first | subst eo136 | (injection eo136 with f1_ f2_ f3_; have f4_ := f1_.symm; have f5_ := f3_.symm; clear f1_ f2_ f3_; subst f4_; subst f5_))
                refine hK.out _ _ ⟨(blk_cell BK968.out 0).trans rfl, (blk_cell BK968.out 1).trans rfl, (blk_cell BK948.out 0).trans rfl, (blk_cell BK948.out 1).trans rfl⟩ (fun hHeld => ?_)
                clear hK K
                refine norm_ (a' := ?_) ?_ ?_
                rotate_left
                · show Act.put _ (some 65) _ = _
                  simp only [Act.put, List.setIfInBounds_toArray, List.set_cons_zero, List.set_cons_succ, i64_w, i32_w]
                  rfl
                refine one_ (i := 3) (N := some 66) #[true, true, true, true, false] rfl rfl (by kernel_rfl) (by decide) (fun K hK => ?_)
                refine goes_ Try.func19 (by kernel_rfl) rfl #[.agg #[.int .i64 t964, .slice Ao38 t965.length co38], .agg #[.int .i64 t980, .slice Ao136 t981.length co136]] (by rfl) rfl rfl (by (try simp only [List.map_toArray, List.map_cons, List.map_nil]); first | done | rfl | (simp only [List.length_drop, List.length_take]; rfl)) ?_
                with_reducible refine (laws_eqSpace.calls kj20 t964 _ _ t965 t980 _ _ t981 false _ ?side1 ?side2 ?side3 ?side4 A53.out).mono ?_
                (case side1 => repeat (first | exact (Kd.R_reads' HO_969001.out).2.2 | (with_reducible refine Kd.C_alloc ?_ _) | (with_reducible refine Kd.C_drewN ?_ _) | (with_reducible refine Kd.C_drew ?_)))
                (case side2 => exact (Kd.R_reads' HO_969001.out).2.1)
                (case side3 => repeat (first | exact (Kd.R_reads' HO983.out).2.2 | (with_reducible refine Kd.C_alloc ?_ _) | (with_reducible refine Kd.C_drewN ?_ _) | (with_reducible refine Kd.C_drew ?_)))
                (case side4 => exact (Kd.R_reads' HO983.out).2.1)
                rintro e w137 ⟨rfl, hb⟩
                refine ⟨_, rfl, ?_⟩
                have n0_ := Aside0.mk (Kd.R_below (by (with_reducible repeat (first | apply Kd.R_alloc | apply Kd.R_drewN | apply Kd.R_drew)); exact HO_8.out) hb)
                have n1_ := Aside0.mk (Kd.R_below (by (with_reducible repeat (first | apply Kd.R_alloc | apply Kd.R_drewN | apply Kd.R_drew)); exact HO_11.out) hb)
                have n2_ := Aside0.mk (Kd.R_below (by (with_reducible repeat (first | apply Kd.R_alloc | apply Kd.R_drewN | apply Kd.R_drew)); exact HO_12.out) hb)
                have n3_ := Aside0.mk (Kd.R_below (by (with_reducible repeat (first | apply Kd.R_alloc | apply Kd.R_drewN | apply Kd.R_drew)); exact HO_13.out) hb)
                have n4_ := Aside0.mk (Kd.R_below (by (with_reducible repeat (first | apply Kd.R_alloc | apply Kd.R_drewN | apply Kd.R_drew)); exact HO_969001.out) hb)
                have n5_ := Aside0.mk (Kd.R_below (by (with_reducible repeat (first | apply Kd.R_alloc | apply Kd.R_drewN | apply Kd.R_drew)); exact HO983.out) hb)
                have n6_ := Aside0.mk (blk_below (g := gb948) (o := .cells #[.int .i64 a0_0, .slice A0_1 l0_1.length c0_1] 24 (0, 0)) (by (with_reducible repeat (first | refine blk_drewN ?_ _ | refine blk_drew ?_ | refine blk_alloc ?_ _)); exact BK948.out) hb)
                have n7_ := Aside0.mk (blk_below (g := gb968) (o := .cells #[.int .i64 t964, .slice Ao38 t965.length co38] 28 (0, 0)) (by (with_reducible repeat (first | refine blk_drewN ?_ _ | refine blk_drew ?_ | refine blk_alloc ?_ _)); exact BK968.out) hb)
                have n8_ := Aside0.mk (below_step (by repeat (first | (with_reducible first | exact HB.out | apply below_alloc | apply pw_below_drewN | apply below_drew1 | refine below_set ?_ GE948.out | refine below_set ?_ GE968.out) | exact HB.out)) hb)
                clear HO_8
                clear HO_11
                clear HO_12
                clear HO_13
                clear HO_969001
                clear HO983
                clear BK948
                clear BK968
                clear HB
                have HO_8 := n0_
                have HO_11 := n1_
                have HO_12 := n2_
                have HO_13 := n3_
                have HO_969001 := n4_
                have HO983 := n5_
                have BK948 := n6_
                have BK968 := n7_
                have HB := n8_
                clear n0_ n1_ n2_ n3_ n4_ n5_ n6_ n7_ n8_
                (try clear hb)
                (try clear hb2)
                (try clear hk)
                (try clear hi)
                refine hK.out _ _ ⟨(blk_cell BK968.out 0).trans rfl, (blk_cell BK968.out 1).trans rfl, (blk_cell BK948.out 0).trans rfl, (blk_cell BK948.out 1).trans rfl⟩ (fun hHeld => ?_)
                clear hK K
                refine norm_ (a' := ?_) ?_ ?_
                rotate_left
                · show Act.put _ (some 66) _ = _
                  simp only [Act.put, List.setIfInBounds_toArray, List.set_cons_zero, List.set_cons_succ, i64_w, i32_w]
                  rfl
                refine pure_ (i := 4) (N := some 67) (v := ?_) (a' := ?_) #[true, true, true, true, true] rfl rfl (by kernel_rfl) (fun _ _ _ h => h) (Or.inl ⟨by rfl, ?_⟩) ?_ ?_
                rotate_left
                · intro w'
                  go_simp
                  with_reducible rfl
                rotate_left
                · simp only [Act.put, List.setIfInBounds_toArray, List.set_cons_zero, List.set_cons_succ, i64_w, i32_w]
                  rfl
                refine done_ (by kernel_rfl) ?_
                try go_wp2
                go_ret
                exact ⟨by first | rfl | (simp [errW_none, errW_some] <;> rfl) | (simp [*, errW_none, errW_some] <;> rfl), by repeat (first | (with_reducible first | exact HB.out | apply below_alloc | apply pw_below_drewN | apply below_drew1 | refine below_set ?_ GE948.out | refine below_set ?_ GE968.out) | exact HB.out)⟩

/-- THE ONE PURE STATEMENT of laws_FnExactExchangeWord. -/
def laws_FnExactExchangeWord.Pure : Prop := ∀ (a0_0 : Int) (l0_1 : List Int) (l1 : List Int) (l2 : List Int), (Lit.int .i64 a0_0).wf = true → l0_1.length ≤ maxLen → (∀ x ∈ l0_1, (Lit.int .i64 x).wf = true) → l1.length ≤ maxLen → (∀ x ∈ l1, (Lit.int .i64 x).wf = true) → l2.length ≤ maxLen → (∀ x ∈ l2, (Lit.int .i64 x).wf = true) → ∃ k, laws_FnExactExchangeWord.f k a0_0 l0_1 l1 l2 = some true
theorem laws_FnExactExchangeWord.walk (P : laws_FnExactExchangeWord.Pure) (a0_0 : Int) (A0_1 : Option Addr) (c0_1 : Nat) (l0_1 : List Int) (A1 : Option Addr) (c1 : Nat) (l1 : List Int) (A2 : Option Addr) (c2 : Nat) (l2 : List Int) (w : World) (w0_0 : (Lit.int .i64 a0_0).wf = true) (hr0_1 : Kd.C (Kd.int .i64) w A0_1 l0_1.length l0_1) (hc0_1 : l0_1.length ≤ c0_1) (hm0_1 : l0_1.length ≤ maxLen) (hw0_1 : ∀ x ∈ l0_1, (Lit.int .i64 x).wf = true) (hr1 : Kd.C (Kd.int .i64) w A1 l1.length l1) (hc1 : l1.length ≤ c1) (hm1 : l1.length ≤ maxLen) (hw1 : ∀ x ∈ l1, (Lit.int .i64 x).wf = true) (hr2 : Kd.C (Kd.int .i64) w A2 l2.length l2) (hc2 : l2.length ≤ c2) (hm2 : l2.length ≤ maxLen) (hw2 : ∀ x ∈ l2, (Lit.int .i64 x).wf = true) :
    Calls Try.prog 11 #[.agg #[.int .i64 a0_0, .slice A0_1 l0_1.length c0_1], .slice A1 l1.length c1, .slice A2 l2.length c2] w fun e w' => e = .returned (.bool true) ∧ Below w.heap.size w w' := by
  obtain ⟨k, h⟩ := P a0_0 l0_1 l1 l2 w0_0 hm0_1 hw0_1 hm1 hw1 hm2 hw2
  refine (laws_FnExactExchangeWord.calls k a0_0 A0_1 c0_1 l0_1 A1 c1 l1 A2 c2 l2 true w hr0_1 hc0_1 hr1 hc1 hr2 hc2 h).mono ?_
  rintro e w' ⟨rfl, hd⟩
  exact ⟨rfl, hd⟩

end Go.Proofs.Ytnpfkbfmipnofaa.P
