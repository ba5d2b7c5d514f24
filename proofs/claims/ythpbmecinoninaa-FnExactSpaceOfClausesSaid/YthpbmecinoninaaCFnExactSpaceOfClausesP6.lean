/- Functions of the program as plain Lean functions, each with a proof that the Go code computes it; written by a program of this session. Conditions: as each theorem states. -/
import Derived.Test.YthpbmecinoninaaCFnExactSpaceOfClausesP5
namespace Go.Proofs.Ythpbmecinoninaa.P
open Go.RowKit Go.Proofs.YthpbmecinoninaaW.PrintWords Go.Proofs.YthpbmecinoninaaW.PrintLast Go.Proofs.YthpbmecinoninaaW.PrintMore
attribute [local go_sem] max2_int min2_int max_two min_two max_three min_three max_four min_four   -- for this text's walks alone
set_option linter.unusedVariables false
set_option linter.unusedSimpArgs false

/-! ### laws_FnExactSpaceOfClauses: function 13 -/
mutual
def laws_FnExactSpaceOfClauses.j0 : Nat → Int → List (List Int) → Bool → List (List Int) → Bool → Bool → Int → List Int → Int → List Int → Option (Bool)
 | 0, _, _, _, _, _, _, _, _, _, _ => none
 | k + 1, x0, x1, x7, x8, x10, x44, x947000, x947001, x956000, x956001 => if x44 = true then (some false) else ((laws_toIntSS.f k x1).bind fun t957 => ((laws_eqIntSS.f k x8 t957).bind fun t960 => (if t960 = true then ((laws_markIntSS.f k x8 1).bind fun t961 => (if t961 < 0 then (laws_FnExactSpaceOfClauses.j1 k x0 x1 x7 true x947000 x947001 x956000 x956001) else ((laws_eqSpace.f k x956000 x956001 x947000 x947001).bind fun t962 => (if t962 = true then (laws_FnExactSpaceOfClauses.j1 k x0 x1 x7 (x10 != x7) x947000 x947001 x956000 x956001) else (laws_FnExactSpaceOfClauses.j1 k x0 x1 x7 true x947000 x947001 x956000 x956001))))) else (some false))))
def laws_FnExactSpaceOfClauses.j1 : Nat → Int → List (List Int) → Bool → Bool → Int → List Int → Int → List Int → Option (Bool)
 | 0, _, _, _, _, _, _, _, _ => none
 | k + 1, x0, x1, x7, x65, x947000, x947001, x956000, x956001 => if x65 = true then (some false) else ((laws_markSpace.f k x956000 x956001 1).bind fun bt963 => ((laws_heldSpace.f k x956000 bt963.2 1).bind fun t965 => (if t965 < 0 then (some false) else (if t965 = bt963.1 then ((laws_toIntSS.f k x1).bind fun t966 => ((impl_SpaceOfClauses.f k x0 t966).bind fun bt969 => ((laws_eqSpace.f k bt969.1 bt969.2.1 x947000 x947001).bind fun t975 => (if t975 = true then (laws_FnExactSpaceOfClauses.j2 k bt963.1 (bt969.2.2 != x7) x956000 bt963.2) else (laws_FnExactSpaceOfClauses.j2 k bt963.1 true x956000 bt963.2))))) else (some false)))))
def laws_FnExactSpaceOfClauses.j2 : Nat → Int → Bool → Int → List Int → Option (Bool)
 | 0, _, _, _, _ => none
 | k + 1, x12, x92, x956000, x956001 => if x92 = true then (some false) else ((laws_heldSpace.f k x956000 x956001 1).bind fun t976 => (if t976 < 0 then (some false) else (if t976 = x12 then (some true) else (some false))))
end
def laws_FnExactSpaceOfClauses.f (k : Nat) (a0 : Int) (l1 : List (List Int)) : Option (Bool) := (laws_szIntSS.f k l1 1048576).bind fun t937 => (if t937 < 0 then (some true) else ((laws_toIntSS.f k l1).bind fun t938 => ((spec_SpaceOfClauses.f k a0 t938).bind fun bt941 => ((laws_toIntSS.f k l1).bind fun t947 => ((impl_SpaceOfClauses.f k a0 t947).bind fun bt950 => ((laws_eqSpace.f k bt950.1 bt950.2.1 bt941.1 bt941.2.1).bind fun t956 => (if t956 = true then (laws_FnExactSpaceOfClauses.j0 k a0 l1 bt941.2.2 t947 bt950.2.2 (bt950.2.2 != bt941.2.2) bt941.1 bt941.2.1 bt950.1 bt950.2.1) else (laws_FnExactSpaceOfClauses.j0 k a0 l1 bt941.2.2 t947 bt950.2.2 true bt941.1 bt941.2.1 bt950.1 bt950.2.1))))))))
theorem laws_FnExactSpaceOfClauses.mono_l : ∀ k, (∀ y0 y1 y2 y3 y4 y5 y6 y7 y8 y9, LeO (laws_FnExactSpaceOfClauses.j0 k y0 y1 y2 y3 y4 y5 y6 y7 y8 y9) (laws_FnExactSpaceOfClauses.j0 (k + 1) y0 y1 y2 y3 y4 y5 y6 y7 y8 y9)) ∧ (∀ y0 y1 y2 y3 y4 y5 y6 y7, LeO (laws_FnExactSpaceOfClauses.j1 k y0 y1 y2 y3 y4 y5 y6 y7) (laws_FnExactSpaceOfClauses.j1 (k + 1) y0 y1 y2 y3 y4 y5 y6 y7)) ∧ (∀ y0 y1 y2 y3, LeO (laws_FnExactSpaceOfClauses.j2 k y0 y1 y2 y3) (laws_FnExactSpaceOfClauses.j2 (k + 1) y0 y1 y2 y3))
 | 0 => ⟨fun _ _ _ _ _ _ _ _ _ _ r h => by simp [laws_FnExactSpaceOfClauses.j0] at h, fun _ _ _ _ _ _ _ _ r h => by simp [laws_FnExactSpaceOfClauses.j1] at h, fun _ _ _ _ r h => by simp [laws_FnExactSpaceOfClauses.j2] at h⟩
 | k + 1 => by
  obtain ⟨ih0, ih1, ih2⟩ := laws_FnExactSpaceOfClauses.mono_l k
  refine ⟨?_, ?_, ?_⟩
  ·intro y0 y1 y2 y3 y4 y5 y6 y7 y8 y9
   unfold laws_FnExactSpaceOfClauses.j0
   repeat' first
   | (with_reducible exact ih1 _ _ _ _ _ _ _ _)
   | (with_reducible exact laws_eqIntSS.mono _ _ _)
   | (with_reducible exact laws_eqSpace.mono _ _ _ _ _)
   | (with_reducible exact laws_markIntSS.mono _ _ _)
   | (with_reducible exact laws_toIntSS.mono _ _)
   | (with_reducible exact LeO.refl _)
   | (with_reducible refine LeO.ite ?_ ?_)
   | (with_reducible refine LeO.bind ?_ (fun _ => ?_))
  ·intro y0 y1 y2 y3 y4 y5 y6 y7
   unfold laws_FnExactSpaceOfClauses.j1
   repeat' first
   | (with_reducible exact ih2 _ _ _ _)
   | (with_reducible exact impl_SpaceOfClauses.mono _ _ _)
   | (with_reducible exact laws_eqSpace.mono _ _ _ _ _)
   | (with_reducible exact laws_heldSpace.mono _ _ _ _)
   | (with_reducible exact laws_markSpace.mono _ _ _ _)
   | (with_reducible exact laws_toIntSS.mono _ _)
   | (with_reducible exact LeO.refl _)
   | (with_reducible refine LeO.ite ?_ ?_)
   | (with_reducible refine LeO.bind ?_ (fun _ => ?_))
  ·intro y0 y1 y2 y3
   unfold laws_FnExactSpaceOfClauses.j2
   repeat' first
   | (with_reducible exact laws_heldSpace.mono _ _ _ _)
   | (with_reducible exact LeO.refl _)
   | (with_reducible refine LeO.ite ?_ ?_)
   | (with_reducible refine LeO.bind ?_ (fun _ => ?_))
theorem laws_FnExactSpaceOfClauses.mono : ∀ a0 a1 k, LeO (laws_FnExactSpaceOfClauses.f k a0 a1) (laws_FnExactSpaceOfClauses.f (k + 1) a0 a1) := by
 intro a0 a1 k
 obtain ⟨ih0, ih1, ih2⟩ := laws_FnExactSpaceOfClauses.mono_l k
 unfold laws_FnExactSpaceOfClauses.f
 repeat' first
   | (with_reducible exact ih0 _ _ _ _ _ _ _ _ _ _)
   | (with_reducible exact impl_SpaceOfClauses.mono _ _ _)
   | (with_reducible exact laws_eqSpace.mono _ _ _ _ _)
   | (with_reducible exact laws_szIntSS.mono _ _ _)
   | (with_reducible exact laws_toIntSS.mono _ _)
   | (with_reducible exact spec_SpaceOfClauses.mono _ _ _)
   | (with_reducible exact LeO.refl _)
   | (with_reducible refine LeO.ite ?_ ?_)
   | (with_reducible refine LeO.bind ?_ (fun _ => ?_))
set_option maxHeartbeats 8000000 in
set_option maxRecDepth 100000 in
theorem laws_FnExactSpaceOfClauses.calls (k : Nat) (a0 : Int) (A1 : Option Addr) (c1 : Nat) (l1 : List (List Int)) (r : Bool) (w : World) (hr1 : Kd.C (Kd.slice 3 (Kd.int .i64)) w A1 l1.length l1) (hc1 : l1.length ≤ c1) (h : laws_FnExactSpaceOfClauses.f k a0 l1 = some r) :
  Calls Try.prog 13 #[.int .i64 a0, .slice A1 l1.length c1] w fun e w' => e = .returned (.bool r) ∧ Below w.heap.size w w' := by
 have hu37 := Try.underlying37
 have HR1 := Aside0.mk hr1
 have HC1 := Aside0.mk hc1
 clear hr1 hc1
 have HB := Aside0.mk (Below.refl w.heap.size w)
 have H : ((laws_szIntSS.f k l1 1048576).bind fun t937 => (if t937 < 0 then (some true) else ((laws_toIntSS.f k l1).bind fun t938 => ((spec_SpaceOfClauses.f k a0 t938).bind fun bt941 => ((laws_toIntSS.f k l1).bind fun t947 => ((impl_SpaceOfClauses.f k a0 t947).bind fun bt950 => ((laws_eqSpace.f k bt950.1 bt950.2.1 bt941.1 bt941.2.1).bind fun t956 => (if t956 = true then (laws_FnExactSpaceOfClauses.j0 k a0 l1 bt941.2.2 t947 bt950.2.2 (bt950.2.2 != bt941.2.2) bt941.1 bt941.2.1 bt950.1 bt950.2.1) else (laws_FnExactSpaceOfClauses.j0 k a0 l1 bt941.2.2 t947 bt950.2.2 true bt941.1 bt941.2.1 bt950.1 bt950.2.1))))))))) = some r := h
 clear h
 replace H := Option.bind_eq_some_iff.mp H
 obtain ⟨t937, A30, H⟩ := H
 replace H : (if t937 < 0 then (some true) else ((laws_toIntSS.f k l1).bind fun t938 => ((spec_SpaceOfClauses.f k a0 t938).bind fun bt941 => ((laws_toIntSS.f k l1).bind fun t947 => ((impl_SpaceOfClauses.f k a0 t947).bind fun bt950 => ((laws_eqSpace.f k bt950.1 bt950.2.1 bt941.1 bt941.2.1).bind fun t956 => (if t956 = true then (laws_FnExactSpaceOfClauses.j0 k a0 l1 bt941.2.2 t947 bt950.2.2 (bt950.2.2 != bt941.2.2) bt941.1 bt941.2.1 bt950.1 bt950.2.1) else (laws_FnExactSpaceOfClauses.j0 k a0 l1 bt941.2.2 t947 bt950.2.2 true bt941.1 bt941.2.1 bt950.1 bt950.2.1)))))))) = some r := H
 have A3 := Aside0.mk A30
 clear A30
 by_cases c4 : t937 < 0
 ·rw [if_pos c4] at H
  have c4b0 : decide (t937 < 0) = true := decide_eq_true c4
  clear c4
  obtain rfl := Option.some.inj H
  go_enter Try.func13, Try.ntmps13
  go_wp2_with (((with_reducible refine gate_callee (f := 25) rfl ?_); refine goesL_ (some 18) rfl rfl Try.func25 (by kernel_rfl) rfl #[.slice A1 l1.length c1, .int .i64 1048576] rfl (by (try simp only [List.map_toArray, List.map_cons, List.map_nil]); rfl) ?_; (with_reducible refine (laws_szIntSS.calls k _ _ l1 1048576 t937 _ ?side1 ?side2 A3.out).mono ?_); (case side1 => repeat (exact HR1.out)); (case side2 => exact HC1.out); rintro e w' ⟨rfl, ⟨nd, rfl⟩⟩; refine ⟨_, rfl, ?_⟩))
  go_ret
  exact ⟨by rfl, by repeat ((with_reducible first | exact HB.out | apply pw_below_drewN))⟩
 ·rw [if_neg c4] at H
  have c4b0 : decide (t937 < 0) = false := decide_eq_false c4
  clear c4
  replace H := Option.bind_eq_some_iff.mp H
  obtain ⟨t938, A50, H⟩ := H
  replace H : ((spec_SpaceOfClauses.f k a0 t938).bind fun bt941 => ((laws_toIntSS.f k l1).bind fun t947 => ((impl_SpaceOfClauses.f k a0 t947).bind fun bt950 => ((laws_eqSpace.f k bt950.1 bt950.2.1 bt941.1 bt941.2.1).bind fun t956 => (if t956 = true then (laws_FnExactSpaceOfClauses.j0 k a0 l1 bt941.2.2 t947 bt950.2.2 (bt950.2.2 != bt941.2.2) bt941.1 bt941.2.1 bt950.1 bt950.2.1) else (laws_FnExactSpaceOfClauses.j0 k a0 l1 bt941.2.2 t947 bt950.2.2 true bt941.1 bt941.2.1 bt950.1 bt950.2.1)))))) = some r := H
  have A5 := Aside0.mk A50
  clear A50
  replace H := Option.bind_eq_some_iff.mp H
  obtain ⟨⟨t941, t942, t945⟩, A60, H⟩ := H
  replace H : ((laws_toIntSS.f k l1).bind fun t947 => ((impl_SpaceOfClauses.f k a0 t947).bind fun bt950 => ((laws_eqSpace.f k bt950.1 bt950.2.1 t941 t942).bind fun t956 => (if t956 = true then (laws_FnExactSpaceOfClauses.j0 k a0 l1 t945 t947 bt950.2.2 (bt950.2.2 != t945) t941 t942 bt950.1 bt950.2.1) else (laws_FnExactSpaceOfClauses.j0 k a0 l1 t945 t947 bt950.2.2 true t941 t942 bt950.1 bt950.2.1))))) = some r := H
  have A6 := Aside0.mk A60
  clear A60
  replace H := Option.bind_eq_some_iff.mp H
  obtain ⟨t947, A70, H⟩ := H
  replace H : ((impl_SpaceOfClauses.f k a0 t947).bind fun bt950 => ((laws_eqSpace.f k bt950.1 bt950.2.1 t941 t942).bind fun t956 => (if t956 = true then (laws_FnExactSpaceOfClauses.j0 k a0 l1 t945 t947 bt950.2.2 (bt950.2.2 != t945) t941 t942 bt950.1 bt950.2.1) else (laws_FnExactSpaceOfClauses.j0 k a0 l1 t945 t947 bt950.2.2 true t941 t942 bt950.1 bt950.2.1)))) = some r := H
  have A7 := Aside0.mk A70
  clear A70
  replace H := Option.bind_eq_some_iff.mp H
  obtain ⟨⟨t950, t951, t954⟩, A80, H⟩ := H
  replace H : ((laws_eqSpace.f k t950 t951 t941 t942).bind fun t956 => (if t956 = true then (laws_FnExactSpaceOfClauses.j0 k a0 l1 t945 t947 t954 (t954 != t945) t941 t942 t950 t951) else (laws_FnExactSpaceOfClauses.j0 k a0 l1 t945 t947 t954 true t941 t942 t950 t951))) = some r := H
  have A8 := Aside0.mk A80
  clear A80
  have HC9 := Aside0.mk H
  clear H
  go_enter Try.func13, Try.ntmps13
  go_upto_region 8 with (first | ((with_reducible refine gate_callee (f := 25) rfl ?_); refine goesL_ (some 18) rfl rfl Try.func25 (by kernel_rfl) rfl #[.slice A1 l1.length c1, .int .i64 1048576] rfl (by (try simp only [List.map_toArray, List.map_cons, List.map_nil]); rfl) ?_; (with_reducible refine (laws_szIntSS.calls k _ _ l1 1048576 t937 _ ?side1 ?side2 A3.out).mono ?_); (case side1 => repeat (exact HR1.out)); (case side2 => exact HC1.out); rintro e w' ⟨rfl, ⟨nd, rfl⟩⟩; refine ⟨_, rfl, ?_⟩) | ((with_reducible refine gate_callee (f := 27) rfl ?_); refine goesL_ (some 24) rfl rfl Try.func27 (by kernel_rfl) rfl #[.slice A1 l1.length c1] rfl (by (try simp only [List.map_toArray, List.map_cons, List.map_nil]); rfl) ?_; (with_reducible refine (laws_toIntSS.calls k _ _ l1 t938 _ ?side1 ?side2 A5.out).mono ?_); (case side1 => repeat (exact HR1.out)); (case side2 => exact HC1.out); rintro e w10 ⟨v939, rfl, ho0, hb⟩; refine ⟨_, rfl, ?_⟩; have n0_ := Aside0.mk (Kd.S_lower ho0 (below_size (by repeat ((with_reducible first | exact HB.out | apply pw_below_drewN))))); have n1_ := Aside0.mk (below_step (by repeat ((with_reducible first | exact HB.out | apply pw_below_drewN))) hb); clear HB; have HO940 := n0_; have HB := n1_; clear n0_ n1_; (try clear hb); (try clear ho0); obtain ⟨Ao11, co11, eo11⟩ := Kd.S_slice HO940.out; subst eo11) | ((with_reducible refine gate_callee (f := 51) rfl ?_); refine goesL_ (some 25) rfl rfl Try.func51 (by kernel_rfl) rfl #[.int .i64 a0, .slice Ao11 t938.length co11] rfl (by (try simp only [List.map_toArray, List.map_cons, List.map_nil]); rfl) ?_; (with_reducible refine (spec_SpaceOfClauses.calls k a0 _ _ t938 t941 t942 t945 _ ?side1 ?side2 A6.out).mono ?_); (case side1 => repeat (exact (Kd.S_reads' HO940.out).2.2)); (case side2 => exact (Kd.S_reads' HO940.out).2.1); rintro e w12 ⟨v943, rfl, ho0, hb⟩; refine ⟨_, rfl, ?_⟩; have n0_ := Aside0.mk (Kd.S_elder' (by (with_reducible repeat (apply Kd.S_drew)); exact HO940.out) (Kd.R_base ho0) hb); have n1_ := Aside0.mk (Kd.R_lower ho0 (below_size (by repeat ((with_reducible exact HB.out))))); have n2_ := Aside0.mk (below_step (by repeat ((with_reducible exact HB.out))) hb); clear HO940; clear HB; have HO940 := n0_; have HO944 := n1_; have HB := n2_; clear n0_ n1_ n2_; (try clear hb); (try clear ho0)) | ((with_reducible refine gate_dst (N := 6) rfl ?_); refine box_event ?hg (N := 6) ?hd (cs := #[.int .i64 0, .slice none 0 0]) (t := 37) ?hr ?_; (case hd => rfl); (case hg => rfl); (case hr => (go_simp; done)); intro gb946 hg w13 hbox hb; have n0_ := Aside0.mk (Kd.S_below (by (with_reducible repeat (apply Kd.S_drew)); exact HO940.out) hb); have n1_ := Aside0.mk (Kd.R_below (by (with_reducible repeat (apply Kd.R_drew)); exact HO944.out) hb); have n2_ := Aside0.mk (below_step (by repeat ((with_reducible exact HB.out))) hb); have n3_ := Aside0.mk (hbox); have n4_ := Aside0.mk ((by rw [hg]; exact (below_size (by repeat ((with_reducible exact HB.out)))) : w.heap.size ≤ gb946)); have n5_ := Aside0.mk ((by rw [hg]; exact (below_size (by repeat ((with_reducible exact HB.out)))) : w.heap.size ≤ gb946)); clear HO940; clear HO944; clear HB; have HO940 := n0_; have HO944 := n1_; have HB := n2_; have BK946 := n3_; have GW946 := n4_; have GE946 := n5_; clear n0_ n1_ n2_ n3_ n4_ n5_; clear hb hbox hg; have hcz14_0 : w13.cell? ⟨gb946, 0, none⟩ = some (.int .i64 0) := (blk_cell BK946.out 0).trans rfl; have hcz14_1 : w13.cell? ⟨gb946, 1, none⟩ = some (.slice none 0 0) := (blk_cell BK946.out 1).trans rfl; have hfz14_0 := blk_frozen BK946.out 0; have hfz14_1 := blk_frozen BK946.out 1; obtain ⟨Ao15, co15, eo15⟩ := Kd.R_slice HO944.out; subst eo15) | ((with_reducible refine gate_callee (f := 27) rfl ?_); refine goesL_ (some 29) rfl rfl Try.func27 (by kernel_rfl) rfl #[.slice A1 l1.length c1] rfl (by (try simp only [List.map_toArray, List.map_cons, List.map_nil]); rfl) ?_; (with_reducible refine (laws_toIntSS.calls k _ _ l1 t947 _ ?side1 ?side2 A7.out).mono ?_); (case side1 => exact Kd.C_below HR1.out (by repeat ((with_reducible first | exact HB.out | refine below_set ?_ GE946.out)))); (case side2 => exact HC1.out); rintro e w16 ⟨v948, rfl, ho0, hb⟩; refine ⟨_, rfl, ?_⟩; have n0_ := Aside0.mk (Kd.S_elder' (by (with_reducible repeat (apply Kd.S_drew)); exact (Kd.S_mono (Kd.S_far (p := ⟨gb946, 1, none⟩) (Kd.S_far (p := ⟨gb946, 0, none⟩) (Kd.S_types HO940.out BK946.out (by decide)) (fun _ hk => hk.2) (.int .i64 t941)) (fun _ hk => hk.2) (.slice Ao15 t942.length co15)) (fun _ h_ => h_.1))) (Kd.S_base ho0) hb); have n1_ := Aside0.mk (Kd.R_below (by (with_reducible repeat (apply Kd.R_drew)); exact (Kd.R_mono (Kd.R_far (p := ⟨gb946, 1, none⟩) (Kd.R_far (p := ⟨gb946, 0, none⟩) (Kd.R_types HO944.out BK946.out (by decide)) (fun _ hk => hk.2) (.int .i64 t941)) (fun _ hk => hk.2) (.slice Ao15 t942.length co15)) (fun _ h_ => h_.1))) hb); have n2_ := Aside0.mk (Kd.S_lower (Kd.S_new' (Kd.S_new' ho0 (Kd.S_lt (by (with_reducible repeat (apply Kd.S_drew)); exact (Kd.S_mono (Kd.S_far (p := ⟨gb946, 1, none⟩) (Kd.S_far (p := ⟨gb946, 0, none⟩) (Kd.S_types HO940.out BK946.out (by decide)) (fun _ hk => hk.2) (.int .i64 t941)) (fun _ hk => hk.2) (.slice Ao15 t942.length co15)) (fun _ h_ => h_.1))))) (Kd.R_lt (by (with_reducible repeat (apply Kd.R_drew)); exact (Kd.R_mono (Kd.R_far (p := ⟨gb946, 1, none⟩) (Kd.R_far (p := ⟨gb946, 0, none⟩) (Kd.R_types HO944.out BK946.out (by decide)) (fun _ hk => hk.2) (.int .i64 t941)) (fun _ hk => hk.2) (.slice Ao15 t942.length co15)) (fun _ h_ => h_.1))))) (below_size (by repeat ((with_reducible first | exact HB.out | refine below_set ?_ GE946.out))))); have n3_ := Aside0.mk (blk_below (g := gb946) (o := .cells #[.int .i64 t941, .slice Ao15 t942.length co15] 37 (0, 0)) (by (with_reducible repeat (refine blk_drew ?_)); refine blk_put (cs := #[.int .i64 t941, .slice none 0 0]) ?_ 1 _ rfl; (with_reducible repeat (refine blk_drew ?_)); refine blk_put (cs := #[.int .i64 0, .slice none 0 0]) ?_ 0 _ rfl; (with_reducible repeat (refine blk_drew ?_)); exact BK946.out) hb); have n4_ := Aside0.mk (below_step (by repeat ((with_reducible first | exact HB.out | refine below_set ?_ GE946.out))) hb); clear HO940; clear HO944; clear BK946; clear HB; have HO940 := n0_; have HO944 := n1_; have HO949 := n2_; have BK946 := n3_; have HB := n4_; clear n0_ n1_ n2_ n3_ n4_; (try clear hb); (try clear ho0); obtain ⟨Ao17, co17, eo17⟩ := Kd.S_slice HO949.out; subst eo17) | ((with_reducible refine gate_callee (f := 52) rfl ?_); refine goesL_ (some 33) rfl rfl Try.func52 (by kernel_rfl) rfl #[.int .i64 a0, .slice Ao17 t947.length co17] rfl (by (try simp only [List.map_toArray, List.map_cons, List.map_nil]); rfl) ?_; (with_reducible refine (impl_SpaceOfClauses.calls k a0 _ _ t947 t950 t951 t954 _ ?side1 ?side2 A8.out).mono ?_); (case side1 => repeat (exact (Kd.S_reads' HO949.out).2.2)); (case side2 => exact (Kd.S_reads' HO949.out).2.1); rintro e w18 ⟨v952, rfl, ho0, hb⟩; refine ⟨_, rfl, ?_⟩; have n0_ := Aside0.mk (Kd.S_elder' (by (with_reducible repeat (apply Kd.S_drew)); exact HO940.out) (Kd.R_base ho0) hb); have n1_ := Aside0.mk (Kd.R_elder' (by (with_reducible repeat (apply Kd.R_drew)); exact HO944.out) (Kd.R_base ho0) hb); have n2_ := Aside0.mk (Kd.S_elder' (by (with_reducible repeat (apply Kd.S_drew)); exact HO949.out) (Kd.R_base ho0) hb); have n3_ := Aside0.mk (Kd.R_lower (Kd.R_new' ho0 (Kd.R_lt (by (with_reducible repeat (apply Kd.R_drew)); exact HO944.out))) (below_size (by repeat ((with_reducible exact HB.out))))); have n4_ := Aside0.mk (blk_below (g := gb946) (o := .cells #[.int .i64 t941, .slice Ao15 t942.length co15] 37 (0, 0)) (by (with_reducible repeat (refine blk_drew ?_)); exact BK946.out) hb); have n5_ := Aside0.mk (below_step (by repeat ((with_reducible exact HB.out))) hb); clear HO940; clear HO944; clear HO949; clear BK946; clear HB; have HO940 := n0_; have HO944 := n1_; have HO949 := n2_; have HO953 := n3_; have BK946 := n4_; have HB := n5_; clear n0_ n1_ n2_ n3_ n4_ n5_; (try clear hb); (try clear ho0)) | ((with_reducible refine gate_dst (N := 9) rfl ?_); refine box_event ?hg (N := 9) ?hd (cs := #[.int .i64 0, .slice none 0 0]) (t := 37) ?hr ?_; (case hd => rfl); (case hg => rfl); (case hr => (go_simp; done)); intro gb955 hg w19 hbox hb; have n0_ := Aside0.mk (Kd.S_below (by (with_reducible repeat (apply Kd.S_drew)); exact HO940.out) hb); have n1_ := Aside0.mk (Kd.R_below (by (with_reducible repeat (apply Kd.R_drew)); exact HO944.out) hb); have n2_ := Aside0.mk (Kd.S_below (by (with_reducible repeat (apply Kd.S_drew)); exact HO949.out) hb); have n3_ := Aside0.mk (Kd.R_below (by (with_reducible repeat (apply Kd.R_drew)); exact HO953.out) hb); have n4_ := Aside0.mk (blk_below (g := gb946) (o := .cells #[.int .i64 t941, .slice Ao15 t942.length co15] 37 (0, 0)) (by (with_reducible repeat (refine blk_drew ?_)); exact BK946.out) hb); have n5_ := Aside0.mk (below_step (by repeat ((with_reducible exact HB.out))) hb); have n6_ := Aside0.mk (hbox); have n7_ := Aside0.mk ((by rw [hg]; exact (below_size (by repeat ((with_reducible exact HB.out)))) : w.heap.size ≤ gb955)); have n8_ := Aside0.mk ((by rw [hg]; exact (below_size (by repeat ((with_reducible exact HB.out)))) : w.heap.size ≤ gb955)); have n9_ := Aside0.mk ((by rw [hg]; exact Nat.ne_of_lt (blk_lt (g := gb946) (o := .cells #[.int .i64 t941, .slice Ao15 t942.length co15] 37 (0, 0)) (by (with_reducible repeat (refine blk_drew ?_)); exact BK946.out)) : gb946 ≠ gb955)); have n10_ := Aside0.mk ((by rw [hg]; exact Nat.ne_of_gt (blk_lt (g := gb946) (o := .cells #[.int .i64 t941, .slice Ao15 t942.length co15] 37 (0, 0)) (by (with_reducible repeat (refine blk_drew ?_)); exact BK946.out)) : gb955 ≠ gb946)); clear HO940; clear HO944; clear HO949; clear HO953; clear BK946; clear HB; have HO940 := n0_; have HO944 := n1_; have HO949 := n2_; have HO953 := n3_; have BK946 := n4_; have HB := n5_; have BK955 := n6_; have GW955 := n7_; have GE955 := n8_; have NB946_955 := n9_; have NB955_946 := n10_; clear n0_ n1_ n2_ n3_ n4_ n5_ n6_ n7_ n8_ n9_ n10_; clear hb hbox hg; have hnb20 := NB955_946.out; have hnc20 := NB946_955.out; have hcz21_0 : w19.cell? ⟨gb955, 0, none⟩ = some (.int .i64 0) := (blk_cell BK955.out 0).trans rfl; have hcz21_1 : w19.cell? ⟨gb955, 1, none⟩ = some (.slice none 0 0) := (blk_cell BK955.out 1).trans rfl; have hfz21_0 := blk_frozen BK955.out 0; have hfz21_1 := blk_frozen BK955.out 1; obtain ⟨Ao22, co22, eo22⟩ := Kd.R_slice HO953.out; subst eo22))
  skip
  go_cut [44] (fun v44 wc => ∃ (kq : Nat) (x44_8 : Bool), v44 = .bool x44_8 ∧ Aside0 (laws_FnExactSpaceOfClauses.j0 kq a0 l1 t945 t947 t954 x44_8 t941 t942 t950 t951 = some r) ∧ Aside0 (kq ≤ k) ∧ Aside0 (Kd.S (Kd.slice 3 (Kd.int .i64)) 22 wc w.heap.size (fun k_ => some k_ ≠ ((.slice Ao15 t942.length co15) : Value).ownBlock ∧ some k_ ≠ ((.slice Ao22 t951.length co22) : Value).ownBlock) (.slice Ao17 t947.length co17) t947) ∧ Aside0 (Kd.R (Kd.int .i64) 3 wc w.heap.size (fun k_ => some k_ ≠ ((.slice Ao22 t951.length co22) : Value).ownBlock) (.slice Ao15 t942.length co15) t942) ∧ Aside0 (Kd.R (Kd.int .i64) 3 wc w.heap.size (fun k_ => some k_ ≠ ((.slice Ao15 t942.length co15) : Value).ownBlock) (.slice Ao22 t951.length co22) t951) ∧ Aside0 (wc.heap[gb946]? = some (.cells #[.int .i64 t941, (.slice Ao15 t942.length co15)] 37 (0, 0))) ∧ Aside0 (wc.heap[gb955]? = some (.cells #[.int .i64 t950, (.slice Ao22 t951.length co22)] 37 (0, 0))) ∧ Aside0 (Below w.heap.size w wc))
  case first =>
   have H := HC9.out
   clear HC9
   replace H := Option.bind_eq_some_iff.mp H
   obtain ⟨t956, A230, H⟩ := H
   replace H : (if t956 = true then (laws_FnExactSpaceOfClauses.j0 k a0 l1 t945 t947 t954 (t954 != t945) t941 t942 t950 t951) else (laws_FnExactSpaceOfClauses.j0 k a0 l1 t945 t947 t954 true t941 t942 t950 t951)) = some r := H
   have A23 := Aside0.mk A230
   clear A230
   by_cases c24 : t956 = true
   ·subst c24
    have H1 : (laws_FnExactSpaceOfClauses.j0 k a0 l1 t945 t947 t954 (t954 != t945) t941 t942 t950 t951) = some r := by rw [if_pos rfl] at H; exact H
    clear H
    have H := H1
    clear H1
    have H' := Aside0.mk H
    clear H
    have hnb25 := NB955_946.out
    have hnc25 := NB946_955.out
    have hcz26_0 : w19.cell? ⟨gb955, 0, none⟩ = some (.int .i64 0) := (blk_cell BK955.out 0).trans rfl
    have hcz26_1 : w19.cell? ⟨gb955, 1, none⟩ = some (.slice none 0 0) := (blk_cell BK955.out 1).trans rfl
    have hfz26_0 := blk_frozen BK955.out 0
    have hfz26_1 := blk_frozen BK955.out 1
    have hcz27_0 : w19.cell? ⟨gb946, 0, none⟩ = some (.int .i64 t941) := (blk_cell BK946.out 0).trans rfl
    have hcz27_1 : w19.cell? ⟨gb946, 1, none⟩ = some (.slice Ao15 t942.length co15) := (blk_cell BK946.out 1).trans rfl
    have hfz27_0 := blk_frozen BK946.out 0
    have hfz27_1 := blk_frozen BK946.out 1
    go_wp2_with (((with_reducible refine gate_callee (f := 24) rfl ?_); refine goesL_ (some 38) rfl rfl Try.func24 (by kernel_rfl) rfl #[.agg #[.int .i64 t950, .slice Ao22 t951.length co22], .agg #[.int .i64 t941, .slice Ao15 t942.length co15]] rfl (by (try simp only [List.map_toArray, List.map_cons, List.map_nil]); rfl) ?_; (with_reducible refine (laws_eqSpace.calls k t950 _ _ t951 t941 _ _ t942 true _ ?side1 ?side2 ?side3 ?side4 A23.out).mono ?_); (case side1 => refine (Kd.R_reads' (e := 3) (base := w.heap.size) (ok := fun k_ => (True ∧ some k_ ≠ (.slice Ao15 t942.length co15 : Value).ownBlock)) (n := t951.length) (c := co22) ?_).2.2; exact (by (with_reducible repeat (apply Kd.R_drew)); exact (Kd.R_mono (Kd.R_far (p := ⟨gb955, 1, none⟩) (Kd.R_far (p := ⟨gb955, 0, none⟩) (Kd.R_types HO953.out BK955.out (by decide)) (fun _ hk => hk.2) (.int .i64 t950)) (fun _ hk => hk.2) (.slice Ao22 t951.length co22)) (fun _ h_ => h_.1)))); (case side2 => exact (Kd.R_reads' HO953.out).2.1); (case side3 => refine (Kd.R_reads' (e := 3) (base := w.heap.size) (ok := fun k_ => (True ∧ some k_ ≠ (.slice Ao22 t951.length co22 : Value).ownBlock)) (n := t942.length) (c := co15) ?_).2.2; exact (by (with_reducible repeat (apply Kd.R_drew)); exact (Kd.R_mono (Kd.R_far (p := ⟨gb955, 1, none⟩) (Kd.R_far (p := ⟨gb955, 0, none⟩) (Kd.R_types HO944.out BK955.out (by decide)) (fun _ hk => hk.2) (.int .i64 t950)) (fun _ hk => hk.2) (.slice Ao22 t951.length co22)) (fun _ h_ => h_.1)))); (case side4 => exact (Kd.R_reads' HO944.out).2.1); rintro e w28 ⟨rfl, hb⟩; refine ⟨_, rfl, ?_⟩; have n0_ := Aside0.mk (Kd.S_below (by (with_reducible repeat (apply Kd.S_drew)); exact (Kd.S_mono (Kd.S_far (p := ⟨gb955, 1, none⟩) (Kd.S_far (p := ⟨gb955, 0, none⟩) (Kd.S_types HO940.out BK955.out (by decide)) (fun _ hk => hk.2) (.int .i64 t950)) (fun _ hk => hk.2) (.slice Ao22 t951.length co22)) (fun _ h_ => h_.1))) hb); have n1_ := Aside0.mk (Kd.R_below (by (with_reducible repeat (apply Kd.R_drew)); exact (Kd.R_mono (Kd.R_far (p := ⟨gb955, 1, none⟩) (Kd.R_far (p := ⟨gb955, 0, none⟩) (Kd.R_types HO944.out BK955.out (by decide)) (fun _ hk => hk.2) (.int .i64 t950)) (fun _ hk => hk.2) (.slice Ao22 t951.length co22)) (fun _ h_ => h_.1))) hb); have n2_ := Aside0.mk (Kd.S_below (by (with_reducible repeat (apply Kd.S_drew)); exact (Kd.S_mono (Kd.S_far (p := ⟨gb955, 1, none⟩) (Kd.S_far (p := ⟨gb955, 0, none⟩) (Kd.S_types HO949.out BK955.out (by decide)) (fun _ hk => hk.2) (.int .i64 t950)) (fun _ hk => hk.2) (.slice Ao22 t951.length co22)) (fun _ h_ => h_.1))) hb); have n3_ := Aside0.mk (Kd.R_below (by (with_reducible repeat (apply Kd.R_drew)); exact (Kd.R_mono (Kd.R_far (p := ⟨gb955, 1, none⟩) (Kd.R_far (p := ⟨gb955, 0, none⟩) (Kd.R_types HO953.out BK955.out (by decide)) (fun _ hk => hk.2) (.int .i64 t950)) (fun _ hk => hk.2) (.slice Ao22 t951.length co22)) (fun _ h_ => h_.1))) hb); have n4_ := Aside0.mk (blk_below (g := gb946) (o := .cells #[.int .i64 t941, .slice Ao15 t942.length co15] 37 (0, 0)) (by (with_reducible repeat (refine blk_drew ?_)); refine blk_far ?_ NB946_955.out _; (with_reducible repeat (refine blk_drew ?_)); refine blk_far ?_ NB946_955.out _; (with_reducible repeat (refine blk_drew ?_)); exact BK946.out) hb); have n5_ := Aside0.mk (blk_below (g := gb955) (o := .cells #[.int .i64 t950, .slice Ao22 t951.length co22] 37 (0, 0)) (by (with_reducible repeat (refine blk_drew ?_)); refine blk_put (cs := #[.int .i64 t950, .slice none 0 0]) ?_ 1 _ rfl; (with_reducible repeat (refine blk_drew ?_)); refine blk_put (cs := #[.int .i64 0, .slice none 0 0]) ?_ 0 _ rfl; (with_reducible repeat (refine blk_drew ?_)); exact BK955.out) hb); have n6_ := Aside0.mk (below_step (by repeat ((with_reducible first | exact HB.out | refine below_set ?_ GE955.out))) hb); clear HO940; clear HO944; clear HO949; clear HO953; clear BK946; clear BK955; clear HB; have HO940 := n0_; have HO944 := n1_; have HO949 := n2_; have HO953 := n3_; have BK946 := n4_; have BK955 := n5_; have HB := n6_; clear n0_ n1_ n2_ n3_ n4_ n5_ n6_; (try clear hb); skip))
    go_meet
    case rel => exact ⟨_, ((t954 != t945)), (by rfl), H', ⟨by omega⟩, ⟨by (with_reducible repeat (apply Kd.S_drew)); exact Kd.S_mono HO949.out (fun _ hk => ⟨hk.1.2, hk.2⟩)⟩, ⟨by (with_reducible repeat (apply Kd.R_drew)); exact Kd.R_mono HO944.out (fun _ hk => hk.2)⟩, ⟨by (with_reducible repeat (apply Kd.R_drew)); exact Kd.R_mono HO953.out (fun _ hk => hk.2)⟩, ⟨by (with_reducible repeat (refine blk_drew ?_)); exact BK946.out⟩, ⟨by (with_reducible repeat (refine blk_drew ?_)); exact BK955.out⟩, ⟨by repeat ((with_reducible exact HB.out))⟩⟩
   ·replace c24 := Bool.eq_false_iff.mpr c24
    subst c24
    have H1 : (laws_FnExactSpaceOfClauses.j0 k a0 l1 t945 t947 t954 true t941 t942 t950 t951) = some r := by rw [if_neg (show ¬ (false = true) by decide)] at H; exact H
    clear H
    have H := H1
    clear H1
    have H' := Aside0.mk H
    clear H
    have hnb29 := NB955_946.out
    have hnc29 := NB946_955.out
    have hcz30_0 : w19.cell? ⟨gb955, 0, none⟩ = some (.int .i64 0) := (blk_cell BK955.out 0).trans rfl
    have hcz30_1 : w19.cell? ⟨gb955, 1, none⟩ = some (.slice none 0 0) := (blk_cell BK955.out 1).trans rfl
    have hfz30_0 := blk_frozen BK955.out 0
    have hfz30_1 := blk_frozen BK955.out 1
    have hcz31_0 : w19.cell? ⟨gb946, 0, none⟩ = some (.int .i64 t941) := (blk_cell BK946.out 0).trans rfl
    have hcz31_1 : w19.cell? ⟨gb946, 1, none⟩ = some (.slice Ao15 t942.length co15) := (blk_cell BK946.out 1).trans rfl
    have hfz31_0 := blk_frozen BK946.out 0
    have hfz31_1 := blk_frozen BK946.out 1
    go_wp2_with (((with_reducible refine gate_callee (f := 24) rfl ?_); refine goesL_ (some 38) rfl rfl Try.func24 (by kernel_rfl) rfl #[.agg #[.int .i64 t950, .slice Ao22 t951.length co22], .agg #[.int .i64 t941, .slice Ao15 t942.length co15]] rfl (by (try simp only [List.map_toArray, List.map_cons, List.map_nil]); rfl) ?_; (with_reducible refine (laws_eqSpace.calls k t950 _ _ t951 t941 _ _ t942 false _ ?side1 ?side2 ?side3 ?side4 A23.out).mono ?_); (case side1 => refine (Kd.R_reads' (e := 3) (base := w.heap.size) (ok := fun k_ => (True ∧ some k_ ≠ (.slice Ao15 t942.length co15 : Value).ownBlock)) (n := t951.length) (c := co22) ?_).2.2; exact (by (with_reducible repeat (apply Kd.R_drew)); exact (Kd.R_mono (Kd.R_far (p := ⟨gb955, 1, none⟩) (Kd.R_far (p := ⟨gb955, 0, none⟩) (Kd.R_types HO953.out BK955.out (by decide)) (fun _ hk => hk.2) (.int .i64 t950)) (fun _ hk => hk.2) (.slice Ao22 t951.length co22)) (fun _ h_ => h_.1)))); (case side2 => exact (Kd.R_reads' HO953.out).2.1); (case side3 => refine (Kd.R_reads' (e := 3) (base := w.heap.size) (ok := fun k_ => (True ∧ some k_ ≠ (.slice Ao22 t951.length co22 : Value).ownBlock)) (n := t942.length) (c := co15) ?_).2.2; exact (by (with_reducible repeat (apply Kd.R_drew)); exact (Kd.R_mono (Kd.R_far (p := ⟨gb955, 1, none⟩) (Kd.R_far (p := ⟨gb955, 0, none⟩) (Kd.R_types HO944.out BK955.out (by decide)) (fun _ hk => hk.2) (.int .i64 t950)) (fun _ hk => hk.2) (.slice Ao22 t951.length co22)) (fun _ h_ => h_.1)))); (case side4 => exact (Kd.R_reads' HO944.out).2.1); rintro e w32 ⟨rfl, hb⟩; refine ⟨_, rfl, ?_⟩; have n0_ := Aside0.mk (Kd.S_below (by (with_reducible repeat (apply Kd.S_drew)); exact (Kd.S_mono (Kd.S_far (p := ⟨gb955, 1, none⟩) (Kd.S_far (p := ⟨gb955, 0, none⟩) (Kd.S_types HO940.out BK955.out (by decide)) (fun _ hk => hk.2) (.int .i64 t950)) (fun _ hk => hk.2) (.slice Ao22 t951.length co22)) (fun _ h_ => h_.1))) hb); have n1_ := Aside0.mk (Kd.R_below (by (with_reducible repeat (apply Kd.R_drew)); exact (Kd.R_mono (Kd.R_far (p := ⟨gb955, 1, none⟩) (Kd.R_far (p := ⟨gb955, 0, none⟩) (Kd.R_types HO944.out BK955.out (by decide)) (fun _ hk => hk.2) (.int .i64 t950)) (fun _ hk => hk.2) (.slice Ao22 t951.length co22)) (fun _ h_ => h_.1))) hb); have n2_ := Aside0.mk (Kd.S_below (by (with_reducible repeat (apply Kd.S_drew)); exact (Kd.S_mono (Kd.S_far (p := ⟨gb955, 1, none⟩) (Kd.S_far (p := ⟨gb955, 0, none⟩) (Kd.S_types HO949.out BK955.out (by decide)) (fun _ hk => hk.2) (.int .i64 t950)) (fun _ hk => hk.2) (.slice Ao22 t951.length co22)) (fun _ h_ => h_.1))) hb); have n3_ := Aside0.mk (Kd.R_below (by (with_reducible repeat (apply Kd.R_drew)); exact (Kd.R_mono (Kd.R_far (p := ⟨gb955, 1, none⟩) (Kd.R_far (p := ⟨gb955, 0, none⟩) (Kd.R_types HO953.out BK955.out (by decide)) (fun _ hk => hk.2) (.int .i64 t950)) (fun _ hk => hk.2) (.slice Ao22 t951.length co22)) (fun _ h_ => h_.1))) hb); have n4_ := Aside0.mk (blk_below (g := gb946) (o := .cells #[.int .i64 t941, .slice Ao15 t942.length co15] 37 (0, 0)) (by (with_reducible repeat (refine blk_drew ?_)); refine blk_far ?_ NB946_955.out _; (with_reducible repeat (refine blk_drew ?_)); refine blk_far ?_ NB946_955.out _; (with_reducible repeat (refine blk_drew ?_)); exact BK946.out) hb); have n5_ := Aside0.mk (blk_below (g := gb955) (o := .cells #[.int .i64 t950, .slice Ao22 t951.length co22] 37 (0, 0)) (by (with_reducible repeat (refine blk_drew ?_)); refine blk_put (cs := #[.int .i64 t950, .slice none 0 0]) ?_ 1 _ rfl; (with_reducible repeat (refine blk_drew ?_)); refine blk_put (cs := #[.int .i64 0, .slice none 0 0]) ?_ 0 _ rfl; (with_reducible repeat (refine blk_drew ?_)); exact BK955.out) hb); have n6_ := Aside0.mk (below_step (by repeat ((with_reducible first | exact HB.out | refine below_set ?_ GE955.out))) hb); clear HO940; clear HO944; clear HO949; clear HO953; clear BK946; clear BK955; clear HB; have HO940 := n0_; have HO944 := n1_; have HO949 := n2_; have HO953 := n3_; have BK946 := n4_; have BK955 := n5_; have HB := n6_; clear n0_ n1_ n2_ n3_ n4_ n5_ n6_; (try clear hb); skip))
    go_meet
    case rel => exact ⟨_, (true), (by rfl), H', ⟨by omega⟩, ⟨by (with_reducible repeat (apply Kd.S_drew)); exact Kd.S_mono HO949.out (fun _ hk => ⟨hk.1.2, hk.2⟩)⟩, ⟨by (with_reducible repeat (apply Kd.R_drew)); exact Kd.R_mono HO944.out (fun _ hk => hk.2)⟩, ⟨by (with_reducible repeat (apply Kd.R_drew)); exact Kd.R_mono HO953.out (fun _ hk => hk.2)⟩, ⟨by (with_reducible repeat (refine blk_drew ?_)); exact BK946.out⟩, ⟨by (with_reducible repeat (refine blk_drew ?_)); exact BK955.out⟩, ⟨by repeat ((with_reducible exact HB.out))⟩⟩
  case rest =>
   clear HC9
   try clear c1
   try clear c2
   try clear p2
   try clear c4
   try clear c4b0
   try clear c5
   try clear c13
   try clear c20
   try clear c24
   try clear c25
   try clear c27
   try clear c29
   try clear hcz14_0
   try clear hcz14_1
   try clear hcz21_0
   try clear hcz21_1
   try clear hcz26_0
   try clear hcz26_1
   try clear hcz27_0
   try clear hcz27_1
   try clear hcz30_0
   try clear hcz30_1
   try clear hcz31_0
   try clear hcz31_1
   try clear hfz14_0
   try clear hfz14_1
   try clear hfz21_0
   try clear hfz21_1
   try clear hfz26_0
   try clear hfz26_1
   try clear hfz27_0
   try clear hfz27_1
   try clear hfz30_0
   try clear hfz30_1
   try clear hfz31_0
   try clear hfz31_1
   obtain ⟨kq, x44_8, rfl, HA, HJ8, HO_8, HO_947001, HO_956001, BK946, BK955, HB⟩ := hcut
   cases kq with
   | zero => exact absurd HA.out (by simp [laws_FnExactSpaceOfClauses.j0])
   | succ kj8 =>
    have H := HA.out
    clear HA
    simp only [laws_FnExactSpaceOfClauses.j0] at H
    by_cases c33 : x44_8 = true
    ·subst c33
     have H1 : (some false) = some r := by rw [if_pos rfl] at H; exact H
     clear H
     have H := H1
     clear H1
     obtain rfl := Option.some.inj H
     go_wp2
     go_ret
     exact ⟨by rfl, by repeat ((with_reducible exact HB.out))⟩
    ·replace c33 := Bool.eq_false_iff.mpr c33
     subst c33
     have H1 : ((laws_toIntSS.f kj8 l1).bind fun t957 => ((laws_eqIntSS.f kj8 t947 t957).bind fun t960 => (if t960 = true then ((laws_markIntSS.f kj8 t947 1).bind fun t961 => (if t961 < 0 then (laws_FnExactSpaceOfClauses.j1 kj8 a0 l1 t945 true t941 t942 t950 t951) else ((laws_eqSpace.f kj8 t950 t951 t941 t942).bind fun t962 => (if t962 = true then (laws_FnExactSpaceOfClauses.j1 kj8 a0 l1 t945 (t954 != t945) t941 t942 t950 t951) else (laws_FnExactSpaceOfClauses.j1 kj8 a0 l1 t945 true t941 t942 t950 t951))))) else (some false)))) = some r := by rw [if_neg (show ¬ (false = true) by decide)] at H; exact H
     clear H
     have H := H1
     clear H1
     replace H := Option.bind_eq_some_iff.mp H
     obtain ⟨t957, A340, H⟩ := H
     replace H : ((laws_eqIntSS.f kj8 t947 t957).bind fun t960 => (if t960 = true then ((laws_markIntSS.f kj8 t947 1).bind fun t961 => (if t961 < 0 then (laws_FnExactSpaceOfClauses.j1 kj8 a0 l1 t945 true t941 t942 t950 t951) else ((laws_eqSpace.f kj8 t950 t951 t941 t942).bind fun t962 => (if t962 = true then (laws_FnExactSpaceOfClauses.j1 kj8 a0 l1 t945 (t954 != t945) t941 t942 t950 t951) else (laws_FnExactSpaceOfClauses.j1 kj8 a0 l1 t945 true t941 t942 t950 t951))))) else (some false))) = some r := H
     have A34 := Aside0.mk A340
     clear A340
     replace H := Option.bind_eq_some_iff.mp H
     obtain ⟨t960, A350, H⟩ := H
     replace H : (if t960 = true then ((laws_markIntSS.f kj8 t947 1).bind fun t961 => (if t961 < 0 then (laws_FnExactSpaceOfClauses.j1 kj8 a0 l1 t945 true t941 t942 t950 t951) else ((laws_eqSpace.f kj8 t950 t951 t941 t942).bind fun t962 => (if t962 = true then (laws_FnExactSpaceOfClauses.j1 kj8 a0 l1 t945 (t954 != t945) t941 t942 t950 t951) else (laws_FnExactSpaceOfClauses.j1 kj8 a0 l1 t945 true t941 t942 t950 t951))))) else (some false)) = some r := H
     have A35 := Aside0.mk A350
     clear A350
     by_cases c36 : t960 = true
     ·subst c36
      have H1 : ((laws_markIntSS.f kj8 t947 1).bind fun t961 => (if t961 < 0 then (laws_FnExactSpaceOfClauses.j1 kj8 a0 l1 t945 true t941 t942 t950 t951) else ((laws_eqSpace.f kj8 t950 t951 t941 t942).bind fun t962 => (if t962 = true then (laws_FnExactSpaceOfClauses.j1 kj8 a0 l1 t945 (t954 != t945) t941 t942 t950 t951) else (laws_FnExactSpaceOfClauses.j1 kj8 a0 l1 t945 true t941 t942 t950 t951))))) = some r := by rw [if_pos rfl] at H; exact H
      clear H
      have H := H1
      clear H1
      replace H := Option.bind_eq_some_iff.mp H
      obtain ⟨t961, A370, H⟩ := H
      replace H : (if t961 < 0 then (laws_FnExactSpaceOfClauses.j1 kj8 a0 l1 t945 true t941 t942 t950 t951) else ((laws_eqSpace.f kj8 t950 t951 t941 t942).bind fun t962 => (if t962 = true then (laws_FnExactSpaceOfClauses.j1 kj8 a0 l1 t945 (t954 != t945) t941 t942 t950 t951) else (laws_FnExactSpaceOfClauses.j1 kj8 a0 l1 t945 true t941 t942 t950 t951)))) = some r := H
      have A37 := Aside0.mk A370
      clear A370
      have HC38 := Aside0.mk H
      clear H
      go_upto_region 14 with (first | ((with_reducible refine gate_callee (f := 27) rfl ?_); refine goesL_ (some 47) rfl rfl Try.func27 (by kernel_rfl) rfl #[.slice A1 l1.length c1] rfl (by (try simp only [List.map_toArray, List.map_cons, List.map_nil]); rfl) ?_; (with_reducible refine (laws_toIntSS.calls kj8 _ _ l1 t957 _ ?side1 ?side2 A34.out).mono ?_); (case side1 => repeat (exact (Kd.C_below HR1.out HB.out))); (case side2 => exact HC1.out); rintro e w39 ⟨v958, rfl, ho0, hb⟩; refine ⟨_, rfl, ?_⟩; have n0_ := Aside0.mk (Kd.S_elder' (by (with_reducible repeat (apply Kd.S_drew)); exact HO_8.out) (Kd.S_base ho0) hb); have n1_ := Aside0.mk (Kd.R_below (by (with_reducible repeat (apply Kd.R_drew)); exact HO_947001.out) hb); have n2_ := Aside0.mk (Kd.R_below (by (with_reducible repeat (apply Kd.R_drew)); exact HO_956001.out) hb); have n3_ := Aside0.mk (Kd.S_lower (Kd.S_new' (Kd.S_new' (Kd.S_new' ho0 (Kd.S_lt (by (with_reducible repeat (apply Kd.S_drew)); exact HO_8.out))) (Kd.R_lt (by (with_reducible repeat (apply Kd.R_drew)); exact HO_947001.out))) (Kd.R_lt (by (with_reducible repeat (apply Kd.R_drew)); exact HO_956001.out))) (below_size (by repeat ((with_reducible exact HB.out))))); have n4_ := Aside0.mk (blk_below (g := gb946) (o := .cells #[.int .i64 t941, .slice Ao15 t942.length co15] 37 (0, 0)) (by (with_reducible repeat (refine blk_drew ?_)); exact BK946.out) hb); have n5_ := Aside0.mk (blk_below (g := gb955) (o := .cells #[.int .i64 t950, .slice Ao22 t951.length co22] 37 (0, 0)) (by (with_reducible repeat (refine blk_drew ?_)); exact BK955.out) hb); have n6_ := Aside0.mk (below_step (by repeat ((with_reducible exact HB.out))) hb); clear HO_8; clear HO_947001; clear HO_956001; clear BK946; clear BK955; clear HB; have HO_8 := n0_; have HO_947001 := n1_; have HO_956001 := n2_; have HO959 := n3_; have BK946 := n4_; have BK955 := n5_; have HB := n6_; clear n0_ n1_ n2_ n3_ n4_ n5_ n6_; (try clear hb); (try clear ho0); obtain ⟨Ao40, co40, eo40⟩ := Kd.S_slice HO959.out; subst eo40) | ((with_reducible refine gate_callee (f := 29) rfl ?_); refine goesL_ (some 48) rfl rfl Try.func29 (by kernel_rfl) rfl #[.slice Ao17 t947.length co17, .slice Ao40 t957.length co40] rfl (by (try simp only [List.map_toArray, List.map_cons, List.map_nil]); rfl) ?_; (with_reducible refine (laws_eqIntSS.calls kj8 _ _ t947 _ _ t957 true _ ?side1 ?side2 ?side3 ?side4 A35.out).mono ?_); (case side1 => repeat (exact (Kd.S_reads' HO_8.out).2.2)); (case side2 => exact (Kd.S_reads' HO_8.out).2.1); (case side3 => repeat (exact (Kd.S_reads' HO959.out).2.2)); (case side4 => exact (Kd.S_reads' HO959.out).2.1); rintro e w' ⟨rfl, ⟨nd, rfl⟩⟩; refine ⟨_, rfl, ?_⟩) | ((with_reducible refine gate_callee (f := 44) rfl ?_); refine goesL_ (some 52) rfl rfl Try.func44 (by kernel_rfl) rfl #[.slice Ao17 t947.length co17, .int .i64 1] rfl (by (try simp only [List.map_toArray, List.map_cons, List.map_nil]); rfl) ?_; (with_reducible refine (laws_markIntSS.calls kj8 (fun k_ => (((((some k_ ≠ (.slice Ao15 t942.length co15 : Value).ownBlock ∧ some k_ ≠ (.slice Ao22 t951.length co22 : Value).ownBlock) ∧ some k_ ≠ (.slice Ao40 t957.length co40 : Value).ownBlock) ∧ k_ ≠ gb946) ∧ k_ ≠ gb955)) ∧ w.heap.size ≤ k_) (.slice Ao17 t947.length co17) t947 1 t961 w _ ?side1 ?side2 A37.out).mono ?_); (case side1 => repeat ((with_reducible first | exact HB.out | apply pw_below_drewN))); (case side2 => exact Kd.S_mono (Kd.S_bound ((Kd.S_types (Kd.S_types HO_8.out BK946.out (by decide)) BK955.out (by decide)))) (fun k_ hk_ => ⟨hk_.1, hk_.2.1⟩)); rintro e w41 ⟨rfl, hb, hkp⟩; refine ⟨_, rfl, ?_⟩; have n0_ := Aside0.mk (Kd.R_mono (ok' := fun k_ => some k_ ≠ (.slice Ao22 t951.length co22 : Value).ownBlock) (Kd.R_keptB ((Kd.R_mono (ok' := fun k_ => (some k_ ≠ (.slice Ao22 t951.length co22 : Value).ownBlock) ∧ ¬ ((((((some k_ ≠ (.slice Ao15 t942.length co15 : Value).ownBlock ∧ some k_ ≠ (.slice Ao22 t951.length co22 : Value).ownBlock) ∧ some k_ ≠ (.slice Ao40 t957.length co40 : Value).ownBlock) ∧ k_ ≠ gb946) ∧ k_ ≠ gb955)) ∧ w.heap.size ≤ k_)) (Kd.R_tight2 rfl HO_947001.out) (fun k_ hk => ⟨hk.2, fun e_ => (e_.1.1.1.1.1) hk.1⟩))) hkp (fun k_ hk_ hs_ => (hk_.2) hs_)) (fun k_ hk_ => hk_.1.1)); have n1_ := Aside0.mk (Kd.R_mono (ok' := fun k_ => some k_ ≠ (.slice Ao15 t942.length co15 : Value).ownBlock) (Kd.R_keptB ((Kd.R_mono (ok' := fun k_ => (some k_ ≠ (.slice Ao15 t942.length co15 : Value).ownBlock) ∧ ¬ ((((((some k_ ≠ (.slice Ao15 t942.length co15 : Value).ownBlock ∧ some k_ ≠ (.slice Ao22 t951.length co22 : Value).ownBlock) ∧ some k_ ≠ (.slice Ao40 t957.length co40 : Value).ownBlock) ∧ k_ ≠ gb946) ∧ k_ ≠ gb955)) ∧ w.heap.size ≤ k_)) (Kd.R_tight2 rfl HO_956001.out) (fun k_ hk => ⟨hk.2, fun e_ => (e_.1.1.1.1.2) hk.1⟩))) hkp (fun k_ hk_ hs_ => (hk_.2) hs_)) (fun k_ hk_ => hk_.1.1)); have n2_ := Aside0.mk (blk_kept (by (with_reducible repeat (refine blk_drew ?_)); exact BK946.out) hkp (fun hs_ => (fun e_ => (e_.1.1.2) rfl) hs_)); have n3_ := Aside0.mk (blk_kept (by (with_reducible repeat (refine blk_drew ?_)); exact BK955.out) hkp (fun hs_ => (fun e_ => (e_.1.2) rfl) hs_)); have n4_ := Aside0.mk (hb); clear HO_947001; clear HO_956001; clear BK946; clear BK955; clear HB; clear HO_8; clear HO959; have HO_947001 := n0_; have HO_956001 := n1_; have BK946 := n2_; have BK955 := n3_; have HB := n4_; clear n0_ n1_ n2_ n3_ n4_; (try clear hb); (try clear hkp)))
      skip
      go_cut [65] (fun v65 wc => ∃ (kq : Nat) (x65_37 : Bool), v65 = .bool x65_37 ∧ Aside0 (laws_FnExactSpaceOfClauses.j1 kq a0 l1 t945 x65_37 t941 t942 t950 t951 = some r) ∧ Aside0 (kq ≤ kj8) ∧ Aside0 (Kd.R (Kd.int .i64) 3 wc w.heap.size (fun k_ => some k_ ≠ ((.slice Ao22 t951.length co22) : Value).ownBlock) (.slice Ao15 t942.length co15) t942) ∧ Aside0 (Kd.R (Kd.int .i64) 3 wc w.heap.size (fun k_ => some k_ ≠ ((.slice Ao15 t942.length co15) : Value).ownBlock) (.slice Ao22 t951.length co22) t951) ∧ Aside0 (wc.heap[gb946]? = some (.cells #[.int .i64 t941, (.slice Ao15 t942.length co15)] 37 (0, 0))) ∧ Aside0 (wc.heap[gb955]? = some (.cells #[.int .i64 t950, (.slice Ao22 t951.length co22)] 37 (0, 0))) ∧ Aside0 (Below w.heap.size w wc))
      case first =>
       have H := HC38.out
       clear HC38
       by_cases c42 : t961 < 0
       ·rw [if_pos c42] at H
        have c42b0 : decide (t961 < 0) = true := decide_eq_true c42
        clear c42
        (skip)
        have H' := Aside0.mk H
        clear H
        go_wp2
        go_meet
        case rel => exact ⟨_, (true), (by rfl), H', ⟨by have := HJ8.out; omega⟩, ⟨by (with_reducible repeat (apply Kd.R_drew)); exact HO_947001.out⟩, ⟨by (with_reducible repeat (apply Kd.R_drew)); exact HO_956001.out⟩, ⟨by (with_reducible repeat (refine blk_drew ?_)); exact BK946.out⟩, ⟨by (with_reducible repeat (refine blk_drew ?_)); exact BK955.out⟩, ⟨by repeat ((with_reducible exact HB.out))⟩⟩
       ·rw [if_neg c42] at H
        have c42b0 : decide (t961 < 0) = false := decide_eq_false c42
        clear c42
        (skip)
        replace H := Option.bind_eq_some_iff.mp H
        obtain ⟨t962, A430, H⟩ := H
        replace H : (if t962 = true then (laws_FnExactSpaceOfClauses.j1 kj8 a0 l1 t945 (t954 != t945) t941 t942 t950 t951) else (laws_FnExactSpaceOfClauses.j1 kj8 a0 l1 t945 true t941 t942 t950 t951)) = some r := H
        have A43 := Aside0.mk A430
        clear A430
        by_cases c44 : t962 = true
        ·subst c44
         have H1 : (laws_FnExactSpaceOfClauses.j1 kj8 a0 l1 t945 (t954 != t945) t941 t942 t950 t951) = some r := by rw [if_pos rfl] at H; exact H
         clear H
         have H := H1
         clear H1
         have H' := Aside0.mk H
         clear H
         have hnb45 := NB955_946.out
         have hnc45 := NB946_955.out
         have hcz46_0 : w41.cell? ⟨gb955, 0, none⟩ = some (.int .i64 t950) := (blk_cell BK955.out 0).trans rfl
         have hcz46_1 : w41.cell? ⟨gb955, 1, none⟩ = some (.slice Ao22 t951.length co22) := (blk_cell BK955.out 1).trans rfl
         have hfz46_0 := blk_frozen BK955.out 0
         have hfz46_1 := blk_frozen BK955.out 1
         have hcz47_0 : w41.cell? ⟨gb946, 0, none⟩ = some (.int .i64 t941) := (blk_cell BK946.out 0).trans rfl
         have hcz47_1 : w41.cell? ⟨gb946, 1, none⟩ = some (.slice Ao15 t942.length co15) := (blk_cell BK946.out 1).trans rfl
         have hfz47_0 := blk_frozen BK946.out 0
         have hfz47_1 := blk_frozen BK946.out 1
         go_wp2_with ((go_at_call 24; (with_reducible refine (laws_eqSpace.calls kj8 t950 _ _ t951 t941 _ _ t942 true _ ?side1 ?side2 ?side3 ?side4 A43.out).mono ?_); (case side1 => repeat (exact (Kd.R_reads' HO_956001.out).2.2)); (case side2 => exact (Kd.R_reads' HO_956001.out).2.1); (case side3 => repeat (exact (Kd.R_reads' HO_947001.out).2.2)); (case side4 => exact (Kd.R_reads' HO_947001.out).2.1); rintro e w48 ⟨rfl, hb⟩; have n0_ := Aside0.mk (Kd.R_below (by (with_reducible repeat (apply Kd.R_drew)); exact HO_947001.out) hb); have n1_ := Aside0.mk (Kd.R_below (by (with_reducible repeat (apply Kd.R_drew)); exact HO_956001.out) hb); have n2_ := Aside0.mk (blk_below (g := gb946) (o := .cells #[.int .i64 t941, .slice Ao15 t942.length co15] 37 (0, 0)) (by (with_reducible repeat (refine blk_drew ?_)); exact BK946.out) hb); have n3_ := Aside0.mk (blk_below (g := gb955) (o := .cells #[.int .i64 t950, .slice Ao22 t951.length co22] 37 (0, 0)) (by (with_reducible repeat (refine blk_drew ?_)); exact BK955.out) hb); have n4_ := Aside0.mk (below_step (by repeat ((with_reducible exact HB.out))) hb); clear HO_947001; clear HO_956001; clear BK946; clear BK955; clear HB; have HO_947001 := n0_; have HO_956001 := n1_; have BK946 := n2_; have BK955 := n3_; have HB := n4_; clear n0_ n1_ n2_ n3_ n4_; (try clear hb); skip))
         go_meet
         case rel => exact ⟨_, ((t954 != t945)), (by rfl), H', ⟨by have := HJ8.out; omega⟩, ⟨by (with_reducible repeat (apply Kd.R_drew)); exact HO_947001.out⟩, ⟨by (with_reducible repeat (apply Kd.R_drew)); exact HO_956001.out⟩, ⟨by (with_reducible repeat (refine blk_drew ?_)); exact BK946.out⟩, ⟨by (with_reducible repeat (refine blk_drew ?_)); exact BK955.out⟩, ⟨by repeat ((with_reducible exact HB.out))⟩⟩
        ·replace c44 := Bool.eq_false_iff.mpr c44
         subst c44
         have H1 : (laws_FnExactSpaceOfClauses.j1 kj8 a0 l1 t945 true t941 t942 t950 t951) = some r := by rw [if_neg (show ¬ (false = true) by decide)] at H; exact H
         clear H
         have H := H1
         clear H1
         have H' := Aside0.mk H
         clear H
         have hnb49 := NB955_946.out
         have hnc49 := NB946_955.out
         have hcz50_0 : w41.cell? ⟨gb955, 0, none⟩ = some (.int .i64 t950) := (blk_cell BK955.out 0).trans rfl
         have hcz50_1 : w41.cell? ⟨gb955, 1, none⟩ = some (.slice Ao22 t951.length co22) := (blk_cell BK955.out 1).trans rfl
         have hfz50_0 := blk_frozen BK955.out 0
         have hfz50_1 := blk_frozen BK955.out 1
         have hcz51_0 : w41.cell? ⟨gb946, 0, none⟩ = some (.int .i64 t941) := (blk_cell BK946.out 0).trans rfl
         have hcz51_1 : w41.cell? ⟨gb946, 1, none⟩ = some (.slice Ao15 t942.length co15) := (blk_cell BK946.out 1).trans rfl
         have hfz51_0 := blk_frozen BK946.out 0
         have hfz51_1 := blk_frozen BK946.out 1
         go_wp2_with ((go_at_call 24; (with_reducible refine (laws_eqSpace.calls kj8 t950 _ _ t951 t941 _ _ t942 false _ ?side1 ?side2 ?side3 ?side4 A43.out).mono ?_); (case side1 => repeat (exact (Kd.R_reads' HO_956001.out).2.2)); (case side2 => exact (Kd.R_reads' HO_956001.out).2.1); (case side3 => repeat (exact (Kd.R_reads' HO_947001.out).2.2)); (case side4 => exact (Kd.R_reads' HO_947001.out).2.1); rintro e w52 ⟨rfl, hb⟩; have n0_ := Aside0.mk (Kd.R_below (by (with_reducible repeat (apply Kd.R_drew)); exact HO_947001.out) hb); have n1_ := Aside0.mk (Kd.R_below (by (with_reducible repeat (apply Kd.R_drew)); exact HO_956001.out) hb); have n2_ := Aside0.mk (blk_below (g := gb946) (o := .cells #[.int .i64 t941, .slice Ao15 t942.length co15] 37 (0, 0)) (by (with_reducible repeat (refine blk_drew ?_)); exact BK946.out) hb); have n3_ := Aside0.mk (blk_below (g := gb955) (o := .cells #[.int .i64 t950, .slice Ao22 t951.length co22] 37 (0, 0)) (by (with_reducible repeat (refine blk_drew ?_)); exact BK955.out) hb); have n4_ := Aside0.mk (below_step (by repeat ((with_reducible exact HB.out))) hb); clear HO_947001; clear HO_956001; clear BK946; clear BK955; clear HB; have HO_947001 := n0_; have HO_956001 := n1_; have BK946 := n2_; have BK955 := n3_; have HB := n4_; clear n0_ n1_ n2_ n3_ n4_; (try clear hb); skip))
         go_meet
         case rel => exact ⟨_, (true), (by rfl), H', ⟨by have := HJ8.out; omega⟩, ⟨by (with_reducible repeat (apply Kd.R_drew)); exact HO_947001.out⟩, ⟨by (with_reducible repeat (apply Kd.R_drew)); exact HO_956001.out⟩, ⟨by (with_reducible repeat (refine blk_drew ?_)); exact BK946.out⟩, ⟨by (with_reducible repeat (refine blk_drew ?_)); exact BK955.out⟩, ⟨by repeat ((with_reducible exact HB.out))⟩⟩
      case rest =>
       clear HC38
       try clear c1
       try clear c2
       try clear p2
       try clear c3
       try clear c4
       try clear c4b0
       try clear c5
       try clear c13
       try clear c20
       try clear c24
       try clear c25
       try clear c27
       try clear c29
       try clear c33
       try clear c36
       try clear c42
       try clear c42b0
       try clear c44
       try clear c45
       try clear c49
       try clear c51
       try clear c52
       try clear hcz14_0
       try clear hcz14_1
       try clear hcz21_0
       try clear hcz21_1
       try clear hcz26_0
       try clear hcz26_1
       try clear hcz27_0
       try clear hcz27_1
       try clear hcz30_0
       try clear hcz30_1
       try clear hcz31_0
       try clear hcz31_1
       try clear hcz46_0
       try clear hcz46_1
       try clear hcz47_0
       try clear hcz47_1
       try clear hcz50_0
       try clear hcz50_1
       try clear hcz51_0
       try clear hcz51_1
       try clear hfz14_0
       try clear hfz14_1
       try clear hfz21_0
       try clear hfz21_1
       try clear hfz26_0
       try clear hfz26_1
       try clear hfz27_0
       try clear hfz27_1
       try clear hfz30_0
       try clear hfz30_1
       try clear hfz31_0
       try clear hfz31_1
       try clear hfz46_0
       try clear hfz46_1
       try clear hfz47_0
       try clear hfz47_1
       try clear hfz50_0
       try clear hfz50_1
       try clear hfz51_0
       try clear hfz51_1
       try clear p2
       obtain ⟨kq, x65_37, rfl, HA, HJ37, HO_947001, HO_956001, BK946, BK955, HB⟩ := hcut
       cases kq with
       | zero => exact absurd HA.out (by simp [laws_FnExactSpaceOfClauses.j1])
       | succ kj37 =>
        have H := HA.out
        clear HA
        simp only [laws_FnExactSpaceOfClauses.j1] at H
        by_cases c53 : x65_37 = true
        ·subst c53
         have H1 : (some false) = some r := by rw [if_pos rfl] at H; exact H
         clear H
         have H := H1
         clear H1
         obtain rfl := Option.some.inj H
         go_wp2
         go_ret
         exact ⟨by rfl, by repeat ((with_reducible exact HB.out))⟩
        ·replace c53 := Bool.eq_false_iff.mpr c53
         subst c53
         have H1 : ((laws_markSpace.f kj37 t950 t951 1).bind fun bt963 => ((laws_heldSpace.f kj37 t950 bt963.2 1).bind fun t965 => (if t965 < 0 then (some false) else (if t965 = bt963.1 then ((laws_toIntSS.f kj37 l1).bind fun t966 => ((impl_SpaceOfClauses.f kj37 a0 t966).bind fun bt969 => ((laws_eqSpace.f kj37 bt969.1 bt969.2.1 t941 t942).bind fun t975 => (if t975 = true then (laws_FnExactSpaceOfClauses.j2 kj37 bt963.1 (bt969.2.2 != t945) t950 bt963.2) else (laws_FnExactSpaceOfClauses.j2 kj37 bt963.1 true t950 bt963.2))))) else (some false))))) = some r := by rw [if_neg (show ¬ (false = true) by decide)] at H; exact H
         clear H
         have H := H1
         clear H1
         replace H := Option.bind_eq_some_iff.mp H
         obtain ⟨⟨t963, t964⟩, A540, H⟩ := H
         replace H : ((laws_heldSpace.f kj37 t950 t964 1).bind fun t965 => (if t965 < 0 then (some false) else (if t965 = t963 then ((laws_toIntSS.f kj37 l1).bind fun t966 => ((impl_SpaceOfClauses.f kj37 a0 t966).bind fun bt969 => ((laws_eqSpace.f kj37 bt969.1 bt969.2.1 t941 t942).bind fun t975 => (if t975 = true then (laws_FnExactSpaceOfClauses.j2 kj37 t963 (bt969.2.2 != t945) t950 t964) else (laws_FnExactSpaceOfClauses.j2 kj37 t963 true t950 t964))))) else (some false)))) = some r := H
         have A54 := Aside0.mk A540
         clear A540
         replace H := Option.bind_eq_some_iff.mp H
         obtain ⟨t965, A550, H⟩ := H
         replace H : (if t965 < 0 then (some false) else (if t965 = t963 then ((laws_toIntSS.f kj37 l1).bind fun t966 => ((impl_SpaceOfClauses.f kj37 a0 t966).bind fun bt969 => ((laws_eqSpace.f kj37 bt969.1 bt969.2.1 t941 t942).bind fun t975 => (if t975 = true then (laws_FnExactSpaceOfClauses.j2 kj37 t963 (bt969.2.2 != t945) t950 t964) else (laws_FnExactSpaceOfClauses.j2 kj37 t963 true t950 t964))))) else (some false))) = some r := H
         have A55 := Aside0.mk A550
         clear A550
         by_cases c56 : t965 < 0
         ·rw [if_pos c56] at H
          have c56b0 : decide (t965 < 0) = true := decide_eq_true c56
          clear c56
          obtain rfl := Option.some.inj H
          have hnb57 := NB955_946.out
          have hnc57 := NB946_955.out
          have hcz58_0 : wc.cell? ⟨gb955, 0, none⟩ = some (.int .i64 t950) := (blk_cell BK955.out 0).trans rfl
          have hcz58_1 : wc.cell? ⟨gb955, 1, none⟩ = some (.slice Ao22 t951.length co22) := (blk_cell BK955.out 1).trans rfl
          have hfz58_0 := blk_frozen BK955.out 0
          have hfz58_1 := blk_frozen BK955.out 1
          go_wp2_with (first | ((with_reducible refine gate_callee (f := 37) rfl ?_); refine goesL_ (some 68) rfl rfl Try.func37 (by kernel_rfl) rfl #[.agg #[.int .i64 t950, .slice Ao22 t951.length co22], .int .i64 1] rfl (by (try simp only [List.map_toArray, List.map_cons, List.map_nil]); rfl) ?_; (with_reducible refine (laws_markSpace.calls kj37 t950 (fun k_ => some k_ = (.slice Ao22 t951.length co22 : Value).ownBlock) (.slice Ao22 t951.length co22) t951 1 t963 t964 w _ ?side1 ?side2 A54.out).mono ?_); (case side1 => repeat ((with_reducible exact HB.out))); (case side2 => exact Kd.R_tight rfl HO_956001.out); rintro e w59 ⟨rfl, hy0, hb, hkp⟩; refine ⟨_, rfl, ?_⟩; have n0_ := Aside0.mk (Kd.R_mono (ok' := fun k_ => some k_ ≠ (.slice Ao22 t951.length co22 : Value).ownBlock) (Kd.R_keptB (HO_947001.out) hkp (fun k_ hk_ hs_ => (hk_) hs_)) (fun k_ hk_ => hk_.1)); have n1_ := Aside0.mk (Kd.R_reok rfl hy0 (fun k_ e_ => HO_956001.out.1 k_ e_)); have n2_ := Aside0.mk (blk_kept (by (with_reducible repeat (refine blk_drew ?_)); exact BK946.out) hkp (fun hs_ => (fun e_ => (Kd.R_ne HO_956001.out BK946.out (by decide)) e_) hs_)); have n3_ := Aside0.mk (blk_kept (by (with_reducible repeat (refine blk_drew ?_)); exact BK955.out) hkp (fun hs_ => (fun e_ => (Kd.R_ne HO_956001.out BK955.out (by decide)) e_) hs_)); have n4_ := Aside0.mk (hb); clear HO_947001; clear HO_956001; clear BK946; clear BK955; clear HB; have HO_947001 := n0_; have HO_956001 := n1_; have BK946 := n2_; have BK955 := n3_; have HB := n4_; clear n0_ n1_ n2_ n3_ n4_; (try clear hb); (try clear hkp); (try clear hy0); have hcz60_0 : w59.cell? ⟨gb955, 0, none⟩ = some (.int .i64 t950) := (blk_cell BK955.out 0).trans rfl; have hcz60_1 : w59.cell? ⟨gb955, 1, none⟩ = some (.slice Ao22 t951.length co22) := (blk_cell BK955.out 1).trans rfl; have hfz60_0 := blk_frozen BK955.out 0; have hfz60_1 := blk_frozen BK955.out 1) | ((with_reducible refine gate_callee (f := 45) rfl ?_); refine goesL_ (some 71) rfl rfl Try.func45 (by kernel_rfl) rfl #[.agg #[.int .i64 t950, .slice Ao22 t964.length co22], .int .i64 1] rfl (by (try simp only [List.map_toArray, List.map_cons, List.map_nil]); (rw [show t964.length = t951.length from (Kd.R_reads' HO_956001.out).1.symm] <;> rfl)) ?_; (with_reducible refine (laws_heldSpace.calls kj37 t950 _ _ t964 1 t965 _ ?side1 ?side2 A55.out).mono ?_); (case side1 => repeat (exact (Kd.R_reads' HO_956001.out).2.2)); (case side2 => rw [show t964.length = t951.length from (Kd.R_reads' HO_956001.out).1.symm]; exact (Kd.R_reads' HO_956001.out).2.1); rintro e w61 ⟨rfl, hb⟩; refine ⟨_, rfl, ?_⟩; have n0_ := Aside0.mk (Kd.R_below (by (with_reducible repeat (apply Kd.R_drew)); exact HO_947001.out) hb); have n1_ := Aside0.mk (Kd.R_below (by (with_reducible repeat (apply Kd.R_drew)); exact HO_956001.out) hb); have n2_ := Aside0.mk (blk_below (g := gb946) (o := .cells #[.int .i64 t941, .slice Ao15 t942.length co15] 37 (0, 0)) (by (with_reducible repeat (refine blk_drew ?_)); exact BK946.out) hb); have n3_ := Aside0.mk (blk_below (g := gb955) (o := .cells #[.int .i64 t950, .slice Ao22 t951.length co22] 37 (0, 0)) (by (with_reducible repeat (refine blk_drew ?_)); exact BK955.out) hb); have n4_ := Aside0.mk (below_step (by repeat ((with_reducible exact HB.out))) hb); clear HO_947001; clear HO_956001; clear BK946; clear BK955; clear HB; have HO_947001 := n0_; have HO_956001 := n1_; have BK946 := n2_; have BK955 := n3_; have HB := n4_; clear n0_ n1_ n2_ n3_ n4_; (try clear hb); skip))
          go_ret
          exact ⟨by rfl, by repeat ((with_reducible exact HB.out))⟩
         ·rw [if_neg c56] at H
          have c56b0 : decide (t965 < 0) = false := decide_eq_false c56
          clear c56
          by_cases c62 : t965 = t963
          ·rw [if_pos c62] at H
           have c62b0 : (t965 == t963) = true := beq_iff_eq.mpr c62
           have c62b1 : (t965 != t963) = false := bne_eq_false_iff_eq.mpr c62
           clear c62
           replace H := Option.bind_eq_some_iff.mp H
           obtain ⟨t966, A630, H⟩ := H
           replace H : ((impl_SpaceOfClauses.f kj37 a0 t966).bind fun bt969 => ((laws_eqSpace.f kj37 bt969.1 bt969.2.1 t941 t942).bind fun t975 => (if t975 = true then (laws_FnExactSpaceOfClauses.j2 kj37 t963 (bt969.2.2 != t945) t950 t964) else (laws_FnExactSpaceOfClauses.j2 kj37 t963 true t950 t964)))) = some r := H
           have A63 := Aside0.mk A630
           clear A630
           replace H := Option.bind_eq_some_iff.mp H
           obtain ⟨⟨t969, t970, t973⟩, A640, H⟩ := H
           replace H : ((laws_eqSpace.f kj37 t969 t970 t941 t942).bind fun t975 => (if t975 = true then (laws_FnExactSpaceOfClauses.j2 kj37 t963 (t973 != t945) t950 t964) else (laws_FnExactSpaceOfClauses.j2 kj37 t963 true t950 t964))) = some r := H
           have A64 := Aside0.mk A640
           clear A640
           have HC65 := Aside0.mk H
           clear H
           have hnb66 := NB955_946.out
           have hnc66 := NB946_955.out
           have hcz67_0 : wc.cell? ⟨gb955, 0, none⟩ = some (.int .i64 t950) := (blk_cell BK955.out 0).trans rfl
           have hcz67_1 : wc.cell? ⟨gb955, 1, none⟩ = some (.slice Ao22 t951.length co22) := (blk_cell BK955.out 1).trans rfl
           have hfz67_0 := blk_frozen BK955.out 0
           have hfz67_1 := blk_frozen BK955.out 1
           go_upto_region 25 with (first | ((with_reducible refine gate_callee (f := 37) rfl ?_); refine goesL_ (some 68) rfl rfl Try.func37 (by kernel_rfl) rfl #[.agg #[.int .i64 t950, .slice Ao22 t951.length co22], .int .i64 1] rfl (by (try simp only [List.map_toArray, List.map_cons, List.map_nil]); rfl) ?_; (with_reducible refine (laws_markSpace.calls kj37 t950 (fun k_ => some k_ = (.slice Ao22 t951.length co22 : Value).ownBlock) (.slice Ao22 t951.length co22) t951 1 t963 t964 w _ ?side1 ?side2 A54.out).mono ?_); (case side1 => repeat ((with_reducible exact HB.out))); (case side2 => exact Kd.R_tight rfl HO_956001.out); rintro e w68 ⟨rfl, hy0, hb, hkp⟩; refine ⟨_, rfl, ?_⟩; have n0_ := Aside0.mk (Kd.R_mono (ok' := fun k_ => some k_ ≠ (.slice Ao22 t951.length co22 : Value).ownBlock) (Kd.R_keptB (HO_947001.out) hkp (fun k_ hk_ hs_ => (hk_) hs_)) (fun k_ hk_ => hk_.1)); have n1_ := Aside0.mk (Kd.R_reok rfl hy0 (fun k_ e_ => HO_956001.out.1 k_ e_)); have n2_ := Aside0.mk (blk_kept (by (with_reducible repeat (refine blk_drew ?_)); exact BK946.out) hkp (fun hs_ => (fun e_ => (Kd.R_ne HO_956001.out BK946.out (by decide)) e_) hs_)); have n3_ := Aside0.mk (blk_kept (by (with_reducible repeat (refine blk_drew ?_)); exact BK955.out) hkp (fun hs_ => (fun e_ => (Kd.R_ne HO_956001.out BK955.out (by decide)) e_) hs_)); have n4_ := Aside0.mk (hb); clear HO_947001; clear HO_956001; clear BK946; clear BK955; clear HB; have HO_947001 := n0_; have HO_956001 := n1_; have BK946 := n2_; have BK955 := n3_; have HB := n4_; clear n0_ n1_ n2_ n3_ n4_; (try clear hb); (try clear hkp); (try clear hy0); have hcz69_0 : w68.cell? ⟨gb955, 0, none⟩ = some (.int .i64 t950) := (blk_cell BK955.out 0).trans rfl; have hcz69_1 : w68.cell? ⟨gb955, 1, none⟩ = some (.slice Ao22 t951.length co22) := (blk_cell BK955.out 1).trans rfl; have hfz69_0 := blk_frozen BK955.out 0; have hfz69_1 := blk_frozen BK955.out 1) | ((with_reducible refine gate_callee (f := 45) rfl ?_); refine goesL_ (some 71) rfl rfl Try.func45 (by kernel_rfl) rfl #[.agg #[.int .i64 t950, .slice Ao22 t964.length co22], .int .i64 1] rfl (by (try simp only [List.map_toArray, List.map_cons, List.map_nil]); (rw [show t964.length = t951.length from (Kd.R_reads' HO_956001.out).1.symm] <;> rfl)) ?_; (with_reducible refine (laws_heldSpace.calls kj37 t950 _ _ t964 1 t965 _ ?side1 ?side2 A55.out).mono ?_); (case side1 => repeat (exact (Kd.R_reads' HO_956001.out).2.2)); (case side2 => rw [show t964.length = t951.length from (Kd.R_reads' HO_956001.out).1.symm]; exact (Kd.R_reads' HO_956001.out).2.1); rintro e w70 ⟨rfl, hb⟩; refine ⟨_, rfl, ?_⟩; have n0_ := Aside0.mk (Kd.R_below (by (with_reducible repeat (apply Kd.R_drew)); exact HO_947001.out) hb); have n1_ := Aside0.mk (Kd.R_below (by (with_reducible repeat (apply Kd.R_drew)); exact HO_956001.out) hb); have n2_ := Aside0.mk (blk_below (g := gb946) (o := .cells #[.int .i64 t941, .slice Ao15 t942.length co15] 37 (0, 0)) (by (with_reducible repeat (refine blk_drew ?_)); exact BK946.out) hb); have n3_ := Aside0.mk (blk_below (g := gb955) (o := .cells #[.int .i64 t950, .slice Ao22 t951.length co22] 37 (0, 0)) (by (with_reducible repeat (refine blk_drew ?_)); exact BK955.out) hb); have n4_ := Aside0.mk (below_step (by repeat ((with_reducible exact HB.out))) hb); clear HO_947001; clear HO_956001; clear BK946; clear BK955; clear HB; have HO_947001 := n0_; have HO_956001 := n1_; have BK946 := n2_; have BK955 := n3_; have HB := n4_; clear n0_ n1_ n2_ n3_ n4_; (try clear hb); skip) | ((with_reducible refine gate_callee (f := 27) rfl ?_); refine goesL_ (some 80) rfl rfl Try.func27 (by kernel_rfl) rfl #[.slice A1 l1.length c1] rfl (by (try simp only [List.map_toArray, List.map_cons, List.map_nil]); rfl) ?_; (with_reducible refine (laws_toIntSS.calls kj37 _ _ l1 t966 _ ?side1 ?side2 A63.out).mono ?_); (case side1 => repeat (exact (Kd.C_below HR1.out HB.out))); (case side2 => exact HC1.out); rintro e w71 ⟨v967, rfl, ho0, hb⟩; refine ⟨_, rfl, ?_⟩; have n0_ := Aside0.mk (Kd.R_below (by (with_reducible repeat (apply Kd.R_drew)); exact HO_947001.out) hb); have n1_ := Aside0.mk (Kd.R_below (by (with_reducible repeat (apply Kd.R_drew)); exact HO_956001.out) hb); have n2_ := Aside0.mk (Kd.S_lower (Kd.S_new' (Kd.S_new' ho0 (Kd.R_lt (by (with_reducible repeat (apply Kd.R_drew)); exact HO_947001.out))) (Kd.R_lt (by (with_reducible repeat (apply Kd.R_drew)); exact HO_956001.out))) (below_size (by repeat ((with_reducible exact HB.out))))); have n3_ := Aside0.mk (blk_below (g := gb946) (o := .cells #[.int .i64 t941, .slice Ao15 t942.length co15] 37 (0, 0)) (by (with_reducible repeat (refine blk_drew ?_)); exact BK946.out) hb); have n4_ := Aside0.mk (blk_below (g := gb955) (o := .cells #[.int .i64 t950, .slice Ao22 t951.length co22] 37 (0, 0)) (by (with_reducible repeat (refine blk_drew ?_)); exact BK955.out) hb); have n5_ := Aside0.mk (below_step (by repeat ((with_reducible exact HB.out))) hb); clear HO_947001; clear HO_956001; clear BK946; clear BK955; clear HB; have HO_947001 := n0_; have HO_956001 := n1_; have HO968 := n2_; have BK946 := n3_; have BK955 := n4_; have HB := n5_; clear n0_ n1_ n2_ n3_ n4_ n5_; (try clear hb); (try clear ho0); obtain ⟨Ao72, co72, eo72⟩ := Kd.S_slice HO968.out; subst eo72) | ((with_reducible refine gate_callee (f := 52) rfl ?_); refine goesL_ (some 81) rfl rfl Try.func52 (by kernel_rfl) rfl #[.int .i64 a0, .slice Ao72 t966.length co72] rfl (by (try simp only [List.map_toArray, List.map_cons, List.map_nil]); rfl) ?_; (with_reducible refine (impl_SpaceOfClauses.calls kj37 a0 _ _ t966 t969 t970 t973 _ ?side1 ?side2 A64.out).mono ?_); (case side1 => repeat (exact (Kd.S_reads' HO968.out).2.2)); (case side2 => exact (Kd.S_reads' HO968.out).2.1); rintro e w73 ⟨v971, rfl, ho0, hb⟩; refine ⟨_, rfl, ?_⟩; have n0_ := Aside0.mk (Kd.R_elder' (by (with_reducible repeat (apply Kd.R_drew)); exact HO_947001.out) (Kd.R_base ho0) hb); have n1_ := Aside0.mk (Kd.R_elder' (by (with_reducible repeat (apply Kd.R_drew)); exact HO_956001.out) (Kd.R_base ho0) hb); have n2_ := Aside0.mk (Kd.S_elder' (by (with_reducible repeat (apply Kd.S_drew)); exact HO968.out) (Kd.R_base ho0) hb); have n3_ := Aside0.mk (Kd.R_lower (Kd.R_new' (Kd.R_new' ho0 (Kd.R_lt (by (with_reducible repeat (apply Kd.R_drew)); exact HO_947001.out))) (Kd.R_lt (by (with_reducible repeat (apply Kd.R_drew)); exact HO_956001.out))) (below_size (by repeat ((with_reducible exact HB.out))))); have n4_ := Aside0.mk (blk_below (g := gb946) (o := .cells #[.int .i64 t941, .slice Ao15 t942.length co15] 37 (0, 0)) (by (with_reducible repeat (refine blk_drew ?_)); exact BK946.out) hb); have n5_ := Aside0.mk (blk_below (g := gb955) (o := .cells #[.int .i64 t950, .slice Ao22 t951.length co22] 37 (0, 0)) (by (with_reducible repeat (refine blk_drew ?_)); exact BK955.out) hb); have n6_ := Aside0.mk (below_step (by repeat ((with_reducible exact HB.out))) hb); clear HO_947001; clear HO_956001; clear HO968; clear BK946; clear BK955; clear HB; have HO_947001 := n0_; have HO_956001 := n1_; have HO968 := n2_; have HO972 := n3_; have BK946 := n4_; have BK955 := n5_; have HB := n6_; clear n0_ n1_ n2_ n3_ n4_ n5_ n6_; (try clear hb); (try clear ho0)) | ((with_reducible refine gate_dst (N := 14) rfl ?_); refine box_event ?hg (N := 14) ?hd (cs := #[.int .i64 0, .slice none 0 0]) (t := 37) ?hr ?_; (case hd => rfl); (case hg => rfl); (case hr => (go_simp; done)); intro gb974 hg w74 hbox hb; have n0_ := Aside0.mk (Kd.R_below (by (with_reducible repeat (apply Kd.R_drew)); exact HO_947001.out) hb); have n1_ := Aside0.mk (Kd.R_below (by (with_reducible repeat (apply Kd.R_drew)); exact HO_956001.out) hb); have n2_ := Aside0.mk (Kd.S_below (by (with_reducible repeat (apply Kd.S_drew)); exact HO968.out) hb); have n3_ := Aside0.mk (Kd.R_below (by (with_reducible repeat (apply Kd.R_drew)); exact HO972.out) hb); have n4_ := Aside0.mk (blk_below (g := gb946) (o := .cells #[.int .i64 t941, .slice Ao15 t942.length co15] 37 (0, 0)) (by (with_reducible repeat (refine blk_drew ?_)); exact BK946.out) hb); have n5_ := Aside0.mk (blk_below (g := gb955) (o := .cells #[.int .i64 t950, .slice Ao22 t951.length co22] 37 (0, 0)) (by (with_reducible repeat (refine blk_drew ?_)); exact BK955.out) hb); have n6_ := Aside0.mk (below_step (by repeat ((with_reducible exact HB.out))) hb); have n7_ := Aside0.mk (hbox); have n8_ := Aside0.mk ((by rw [hg]; exact (below_size (by repeat ((with_reducible exact HB.out)))) : w.heap.size ≤ gb974)); have n9_ := Aside0.mk ((by rw [hg]; exact (below_size (by repeat ((with_reducible exact HB.out)))) : w.heap.size ≤ gb974)); have n10_ := Aside0.mk ((by rw [hg]; exact Nat.ne_of_lt (blk_lt (g := gb946) (o := .cells #[.int .i64 t941, .slice Ao15 t942.length co15] 37 (0, 0)) (by (with_reducible repeat (refine blk_drew ?_)); exact BK946.out)) : gb946 ≠ gb974)); have n11_ := Aside0.mk ((by rw [hg]; exact Nat.ne_of_gt (blk_lt (g := gb946) (o := .cells #[.int .i64 t941, .slice Ao15 t942.length co15] 37 (0, 0)) (by (with_reducible repeat (refine blk_drew ?_)); exact BK946.out)) : gb974 ≠ gb946)); have n12_ := Aside0.mk ((by rw [hg]; exact Nat.ne_of_lt (blk_lt (g := gb955) (o := .cells #[.int .i64 t950, .slice Ao22 t951.length co22] 37 (0, 0)) (by (with_reducible repeat (refine blk_drew ?_)); exact BK955.out)) : gb955 ≠ gb974)); have n13_ := Aside0.mk ((by rw [hg]; exact Nat.ne_of_gt (blk_lt (g := gb955) (o := .cells #[.int .i64 t950, .slice Ao22 t951.length co22] 37 (0, 0)) (by (with_reducible repeat (refine blk_drew ?_)); exact BK955.out)) : gb974 ≠ gb955)); clear HO_947001; clear HO_956001; clear HO968; clear HO972; clear BK946; clear BK955; clear HB; have HO_947001 := n0_; have HO_956001 := n1_; have HO968 := n2_; have HO972 := n3_; have BK946 := n4_; have BK955 := n5_; have HB := n6_; have BK974 := n7_; have GW974 := n8_; have GE974 := n9_; have NB946_974 := n10_; have NB974_946 := n11_; have NB955_974 := n12_; have NB974_955 := n13_; clear n0_ n1_ n2_ n3_ n4_ n5_ n6_ n7_ n8_ n9_ n10_ n11_ n12_ n13_; clear hb hbox hg; have hnb75 := NB974_946.out; have hnc75 := NB946_974.out; have hnb76 := NB974_955.out; have hnc76 := NB955_974.out; have hcz77_0 : w74.cell? ⟨gb974, 0, none⟩ = some (.int .i64 0) := (blk_cell BK974.out 0).trans rfl; have hcz77_1 : w74.cell? ⟨gb974, 1, none⟩ = some (.slice none 0 0) := (blk_cell BK974.out 1).trans rfl; have hfz77_0 := blk_frozen BK974.out 0; have hfz77_1 := blk_frozen BK974.out 1; obtain ⟨Ao78, co78, eo78⟩ := Kd.R_slice HO972.out; subst eo78))
           skip
           go_cut [92] (fun v92 wc => ∃ (kq : Nat) (x92_64 : Bool), v92 = .bool x92_64 ∧ Aside0 (laws_FnExactSpaceOfClauses.j2 kq t963 x92_64 t950 t964 = some r) ∧ Aside0 (kq ≤ kj37) ∧ Aside0 (Kd.R (Kd.int .i64) 3 wc w.heap.size (fun k_ => some k_ ≠ ((.slice Ao22 t951.length co22) : Value).ownBlock ∧ some k_ ≠ ((.slice Ao78 t970.length co78) : Value).ownBlock) (.slice Ao15 t942.length co15) t942) ∧ Aside0 (Kd.R (Kd.int .i64) 3 wc w.heap.size (fun k_ => some k_ ≠ ((.slice Ao15 t942.length co15) : Value).ownBlock ∧ some k_ ≠ ((.slice Ao78 t970.length co78) : Value).ownBlock) (.slice Ao22 t951.length co22) t964) ∧ Aside0 (Kd.R (Kd.int .i64) 3 wc w.heap.size (fun k_ => some k_ ≠ ((.slice Ao15 t942.length co15) : Value).ownBlock ∧ some k_ ≠ ((.slice Ao22 t951.length co22) : Value).ownBlock) (.slice Ao78 t970.length co78) t970) ∧ Aside0 (wc.heap[gb946]? = some (.cells #[.int .i64 t941, (.slice Ao15 t942.length co15)] 37 (0, 0))) ∧ Aside0 (wc.heap[gb955]? = some (.cells #[.int .i64 t950, (.slice Ao22 t951.length co22)] 37 (0, 0))) ∧ Aside0 (wc.heap[gb974]? = some (.cells #[.int .i64 t969, (.slice Ao78 t970.length co78)] 37 (0, 0))) ∧ Aside0 (Below w.heap.size w wc))
           case first =>
            have H := HC65.out
            clear HC65
            replace H := Option.bind_eq_some_iff.mp H
            obtain ⟨t975, A790, H⟩ := H
            replace H : (if t975 = true then (laws_FnExactSpaceOfClauses.j2 kj37 t963 (t973 != t945) t950 t964) else (laws_FnExactSpaceOfClauses.j2 kj37 t963 true t950 t964)) = some r := H
            have A79 := Aside0.mk A790
            clear A790
            by_cases c80 : t975 = true
            ·subst c80
             have H1 : (laws_FnExactSpaceOfClauses.j2 kj37 t963 (t973 != t945) t950 t964) = some r := by rw [if_pos rfl] at H; exact H
             clear H
             have H := H1
             clear H1
             have H' := Aside0.mk H
             clear H
             have hnb81 := NB974_946.out
             have hnc81 := NB946_974.out
             have hnb82 := NB974_955.out
             have hnc82 := NB955_974.out
             have hcz83_0 : w74.cell? ⟨gb974, 0, none⟩ = some (.int .i64 0) := (blk_cell BK974.out 0).trans rfl
             have hcz83_1 : w74.cell? ⟨gb974, 1, none⟩ = some (.slice none 0 0) := (blk_cell BK974.out 1).trans rfl
             have hfz83_0 := blk_frozen BK974.out 0
             have hfz83_1 := blk_frozen BK974.out 1
             have hnb84 := NB946_955.out
             have hnc84 := NB955_946.out
             have hcz85_0 : w74.cell? ⟨gb946, 0, none⟩ = some (.int .i64 t941) := (blk_cell BK946.out 0).trans rfl
             have hcz85_1 : w74.cell? ⟨gb946, 1, none⟩ = some (.slice Ao15 t942.length co15) := (blk_cell BK946.out 1).trans rfl
             have hfz85_0 := blk_frozen BK946.out 0
             have hfz85_1 := blk_frozen BK946.out 1
             go_wp2_with (((with_reducible refine gate_callee (f := 24) rfl ?_); refine goesL_ (some 86) rfl rfl Try.func24 (by kernel_rfl) rfl #[.agg #[.int .i64 t969, .slice Ao78 t970.length co78], .agg #[.int .i64 t941, .slice Ao15 t942.length co15]] rfl (by (try simp only [List.map_toArray, List.map_cons, List.map_nil]); rfl) ?_; (with_reducible refine (laws_eqSpace.calls kj37 t969 _ _ t970 t941 _ _ t942 true _ ?side1 ?side2 ?side3 ?side4 A79.out).mono ?_); (case side1 => refine (Kd.R_reads' (e := 3) (base := w.heap.size) (ok := fun k_ => ((True ∧ some k_ ≠ (.slice Ao15 t942.length co15 : Value).ownBlock) ∧ some k_ ≠ (.slice Ao22 t951.length co22 : Value).ownBlock)) (n := t970.length) (c := co78) ?_).2.2; exact (by (with_reducible repeat (apply Kd.R_drew)); exact (Kd.R_mono (Kd.R_far (p := ⟨gb974, 1, none⟩) (Kd.R_far (p := ⟨gb974, 0, none⟩) (Kd.R_types HO972.out BK974.out (by decide)) (fun _ hk => hk.2) (.int .i64 t969)) (fun _ hk => hk.2) (.slice Ao78 t970.length co78)) (fun _ h_ => h_.1)))); (case side2 => exact (Kd.R_reads' HO972.out).2.1); (case side3 => refine (Kd.R_reads' (e := 3) (base := w.heap.size) (ok := fun k_ => (some k_ ≠ (.slice Ao22 t951.length co22 : Value).ownBlock ∧ some k_ ≠ (.slice Ao78 t970.length co78 : Value).ownBlock)) (n := t942.length) (c := co15) ?_).2.2; exact (by (with_reducible repeat (apply Kd.R_drew)); exact (Kd.R_mono (Kd.R_far (p := ⟨gb974, 1, none⟩) (Kd.R_far (p := ⟨gb974, 0, none⟩) (Kd.R_types HO_947001.out BK974.out (by decide)) (fun _ hk => hk.2) (.int .i64 t969)) (fun _ hk => hk.2) (.slice Ao78 t970.length co78)) (fun _ h_ => h_.1)))); (case side4 => exact (Kd.R_reads' HO_947001.out).2.1); rintro e w86 ⟨rfl, hb⟩; refine ⟨_, rfl, ?_⟩; have n0_ := Aside0.mk (Kd.R_below (by (with_reducible repeat (apply Kd.R_drew)); exact (Kd.R_mono (Kd.R_far (p := ⟨gb974, 1, none⟩) (Kd.R_far (p := ⟨gb974, 0, none⟩) (Kd.R_types HO_947001.out BK974.out (by decide)) (fun _ hk => hk.2) (.int .i64 t969)) (fun _ hk => hk.2) (.slice Ao78 t970.length co78)) (fun _ h_ => h_.1))) hb); have n1_ := Aside0.mk (Kd.R_below (by (with_reducible repeat (apply Kd.R_drew)); exact (Kd.R_mono (Kd.R_far (p := ⟨gb974, 1, none⟩) (Kd.R_far (p := ⟨gb974, 0, none⟩) (Kd.R_types HO_956001.out BK974.out (by decide)) (fun _ hk => hk.2) (.int .i64 t969)) (fun _ hk => hk.2) (.slice Ao78 t970.length co78)) (fun _ h_ => h_.1))) hb); have n2_ := Aside0.mk (Kd.S_below (by (with_reducible repeat (apply Kd.S_drew)); exact (Kd.S_mono (Kd.S_far (p := ⟨gb974, 1, none⟩) (Kd.S_far (p := ⟨gb974, 0, none⟩) (Kd.S_types HO968.out BK974.out (by decide)) (fun _ hk => hk.2) (.int .i64 t969)) (fun _ hk => hk.2) (.slice Ao78 t970.length co78)) (fun _ h_ => h_.1))) hb); have n3_ := Aside0.mk (Kd.R_below (by (with_reducible repeat (apply Kd.R_drew)); exact (Kd.R_mono (Kd.R_far (p := ⟨gb974, 1, none⟩) (Kd.R_far (p := ⟨gb974, 0, none⟩) (Kd.R_types HO972.out BK974.out (by decide)) (fun _ hk => hk.2) (.int .i64 t969)) (fun _ hk => hk.2) (.slice Ao78 t970.length co78)) (fun _ h_ => h_.1))) hb); have n4_ := Aside0.mk (blk_below (g := gb946) (o := .cells #[.int .i64 t941, .slice Ao15 t942.length co15] 37 (0, 0)) (by (with_reducible repeat (refine blk_drew ?_)); refine blk_far ?_ NB946_974.out _; (with_reducible repeat (refine blk_drew ?_)); refine blk_far ?_ NB946_974.out _; (with_reducible repeat (refine blk_drew ?_)); exact BK946.out) hb); have n5_ := Aside0.mk (blk_below (g := gb955) (o := .cells #[.int .i64 t950, .slice Ao22 t951.length co22] 37 (0, 0)) (by (with_reducible repeat (refine blk_drew ?_)); refine blk_far ?_ NB955_974.out _; (with_reducible repeat (refine blk_drew ?_)); refine blk_far ?_ NB955_974.out _; (with_reducible repeat (refine blk_drew ?_)); exact BK955.out) hb); have n6_ := Aside0.mk (blk_below (g := gb974) (o := .cells #[.int .i64 t969, .slice Ao78 t970.length co78] 37 (0, 0)) (by (with_reducible repeat (refine blk_drew ?_)); refine blk_put (cs := #[.int .i64 t969, .slice none 0 0]) ?_ 1 _ rfl; (with_reducible repeat (refine blk_drew ?_)); refine blk_put (cs := #[.int .i64 0, .slice none 0 0]) ?_ 0 _ rfl; (with_reducible repeat (refine blk_drew ?_)); exact BK974.out) hb); have n7_ := Aside0.mk (below_step (by repeat ((with_reducible first | exact HB.out | refine below_set ?_ GE974.out))) hb); clear HO_947001; clear HO_956001; clear HO968; clear HO972; clear BK946; clear BK955; clear BK974; clear HB; have HO_947001 := n0_; have HO_956001 := n1_; have HO968 := n2_; have HO972 := n3_; have BK946 := n4_; have BK955 := n5_; have BK974 := n6_; have HB := n7_; clear n0_ n1_ n2_ n3_ n4_ n5_ n6_ n7_; (try clear hb); skip))
             go_meet
             case rel => exact ⟨_, ((t973 != t945)), (by rfl), H', ⟨by have := HJ8.out; have := HJ37.out; omega⟩, ⟨by (with_reducible repeat (apply Kd.R_drew)); exact HO_947001.out⟩, ⟨by (with_reducible repeat (apply Kd.R_drew)); exact HO_956001.out⟩, ⟨by (with_reducible repeat (apply Kd.R_drew)); exact Kd.R_mono HO972.out (fun _ hk => ⟨hk.1.2, hk.2⟩)⟩, ⟨by (with_reducible repeat (refine blk_drew ?_)); exact BK946.out⟩, ⟨by (with_reducible repeat (refine blk_drew ?_)); exact BK955.out⟩, ⟨by (with_reducible repeat (refine blk_drew ?_)); exact BK974.out⟩, ⟨by repeat ((with_reducible exact HB.out))⟩⟩
            ·replace c80 := Bool.eq_false_iff.mpr c80
             subst c80
             have H1 : (laws_FnExactSpaceOfClauses.j2 kj37 t963 true t950 t964) = some r := by rw [if_neg (show ¬ (false = true) by decide)] at H; exact H
             clear H
             have H := H1
             clear H1
             have H' := Aside0.mk H
             clear H
             have hnb87 := NB974_946.out
             have hnc87 := NB946_974.out
             have hnb88 := NB974_955.out
             have hnc88 := NB955_974.out
             have hcz89_0 : w74.cell? ⟨gb974, 0, none⟩ = some (.int .i64 0) := (blk_cell BK974.out 0).trans rfl
             have hcz89_1 : w74.cell? ⟨gb974, 1, none⟩ = some (.slice none 0 0) := (blk_cell BK974.out 1).trans rfl
             have hfz89_0 := blk_frozen BK974.out 0
             have hfz89_1 := blk_frozen BK974.out 1
             have hnb90 := NB946_955.out
             have hnc90 := NB955_946.out
             have hcz91_0 : w74.cell? ⟨gb946, 0, none⟩ = some (.int .i64 t941) := (blk_cell BK946.out 0).trans rfl
             have hcz91_1 : w74.cell? ⟨gb946, 1, none⟩ = some (.slice Ao15 t942.length co15) := (blk_cell BK946.out 1).trans rfl
             have hfz91_0 := blk_frozen BK946.out 0
             have hfz91_1 := blk_frozen BK946.out 1
             go_wp2_with (((with_reducible refine gate_callee (f := 24) rfl ?_); refine goesL_ (some 86) rfl rfl Try.func24 (by kernel_rfl) rfl #[.agg #[.int .i64 t969, .slice Ao78 t970.length co78], .agg #[.int .i64 t941, .slice Ao15 t942.length co15]] rfl (by (try simp only [List.map_toArray, List.map_cons, List.map_nil]); rfl) ?_; (with_reducible refine (laws_eqSpace.calls kj37 t969 _ _ t970 t941 _ _ t942 false _ ?side1 ?side2 ?side3 ?side4 A79.out).mono ?_); (case side1 => refine (Kd.R_reads' (e := 3) (base := w.heap.size) (ok := fun k_ => ((True ∧ some k_ ≠ (.slice Ao15 t942.length co15 : Value).ownBlock) ∧ some k_ ≠ (.slice Ao22 t951.length co22 : Value).ownBlock)) (n := t970.length) (c := co78) ?_).2.2; exact (by (with_reducible repeat (apply Kd.R_drew)); exact (Kd.R_mono (Kd.R_far (p := ⟨gb974, 1, none⟩) (Kd.R_far (p := ⟨gb974, 0, none⟩) (Kd.R_types HO972.out BK974.out (by decide)) (fun _ hk => hk.2) (.int .i64 t969)) (fun _ hk => hk.2) (.slice Ao78 t970.length co78)) (fun _ h_ => h_.1)))); (case side2 => exact (Kd.R_reads' HO972.out).2.1); (case side3 => refine (Kd.R_reads' (e := 3) (base := w.heap.size) (ok := fun k_ => (some k_ ≠ (.slice Ao22 t951.length co22 : Value).ownBlock ∧ some k_ ≠ (.slice Ao78 t970.length co78 : Value).ownBlock)) (n := t942.length) (c := co15) ?_).2.2; exact (by (with_reducible repeat (apply Kd.R_drew)); exact (Kd.R_mono (Kd.R_far (p := ⟨gb974, 1, none⟩) (Kd.R_far (p := ⟨gb974, 0, none⟩) (Kd.R_types HO_947001.out BK974.out (by decide)) (fun _ hk => hk.2) (.int .i64 t969)) (fun _ hk => hk.2) (.slice Ao78 t970.length co78)) (fun _ h_ => h_.1)))); (case side4 => exact (Kd.R_reads' HO_947001.out).2.1); rintro e w92 ⟨rfl, hb⟩; refine ⟨_, rfl, ?_⟩; have n0_ := Aside0.mk (Kd.R_below (by (with_reducible repeat (apply Kd.R_drew)); exact (Kd.R_mono (Kd.R_far (p := ⟨gb974, 1, none⟩) (Kd.R_far (p := ⟨gb974, 0, none⟩) (Kd.R_types HO_947001.out BK974.out (by decide)) (fun _ hk => hk.2) (.int .i64 t969)) (fun _ hk => hk.2) (.slice Ao78 t970.length co78)) (fun _ h_ => h_.1))) hb); have n1_ := Aside0.mk (Kd.R_below (by (with_reducible repeat (apply Kd.R_drew)); exact (Kd.R_mono (Kd.R_far (p := ⟨gb974, 1, none⟩) (Kd.R_far (p := ⟨gb974, 0, none⟩) (Kd.R_types HO_956001.out BK974.out (by decide)) (fun _ hk => hk.2) (.int .i64 t969)) (fun _ hk => hk.2) (.slice Ao78 t970.length co78)) (fun _ h_ => h_.1))) hb); have n2_ := Aside0.mk (Kd.S_below (by (with_reducible repeat (apply Kd.S_drew)); exact (Kd.S_mono (Kd.S_far (p := ⟨gb974, 1, none⟩) (Kd.S_far (p := ⟨gb974, 0, none⟩) (Kd.S_types HO968.out BK974.out (by decide)) (fun _ hk => hk.2) (.int .i64 t969)) (fun _ hk => hk.2) (.slice Ao78 t970.length co78)) (fun _ h_ => h_.1))) hb); have n3_ := Aside0.mk (Kd.R_below (by (with_reducible repeat (apply Kd.R_drew)); exact (Kd.R_mono (Kd.R_far (p := ⟨gb974, 1, none⟩) (Kd.R_far (p := ⟨gb974, 0, none⟩) (Kd.R_types HO972.out BK974.out (by decide)) (fun _ hk => hk.2) (.int .i64 t969)) (fun _ hk => hk.2) (.slice Ao78 t970.length co78)) (fun _ h_ => h_.1))) hb); have n4_ := Aside0.mk (blk_below (g := gb946) (o := .cells #[.int .i64 t941, .slice Ao15 t942.length co15] 37 (0, 0)) (by (with_reducible repeat (refine blk_drew ?_)); refine blk_far ?_ NB946_974.out _; (with_reducible repeat (refine blk_drew ?_)); refine blk_far ?_ NB946_974.out _; (with_reducible repeat (refine blk_drew ?_)); exact BK946.out) hb); have n5_ := Aside0.mk (blk_below (g := gb955) (o := .cells #[.int .i64 t950, .slice Ao22 t951.length co22] 37 (0, 0)) (by (with_reducible repeat (refine blk_drew ?_)); refine blk_far ?_ NB955_974.out _; (with_reducible repeat (refine blk_drew ?_)); refine blk_far ?_ NB955_974.out _; (with_reducible repeat (refine blk_drew ?_)); exact BK955.out) hb); have n6_ := Aside0.mk (blk_below (g := gb974) (o := .cells #[.int .i64 t969, .slice Ao78 t970.length co78] 37 (0, 0)) (by (with_reducible repeat (refine blk_drew ?_)); refine blk_put (cs := #[.int .i64 t969, .slice none 0 0]) ?_ 1 _ rfl; (with_reducible repeat (refine blk_drew ?_)); refine blk_put (cs := #[.int .i64 0, .slice none 0 0]) ?_ 0 _ rfl; (with_reducible repeat (refine blk_drew ?_)); exact BK974.out) hb); have n7_ := Aside0.mk (below_step (by repeat ((with_reducible first | exact HB.out | refine below_set ?_ GE974.out))) hb); clear HO_947001; clear HO_956001; clear HO968; clear HO972; clear BK946; clear BK955; clear BK974; clear HB; have HO_947001 := n0_; have HO_956001 := n1_; have HO968 := n2_; have HO972 := n3_; have BK946 := n4_; have BK955 := n5_; have BK974 := n6_; have HB := n7_; clear n0_ n1_ n2_ n3_ n4_ n5_ n6_ n7_; (try clear hb); skip))
             go_meet
             case rel => exact ⟨_, (true), (by rfl), H', ⟨by have := HJ8.out; have := HJ37.out; omega⟩, ⟨by (with_reducible repeat (apply Kd.R_drew)); exact HO_947001.out⟩, ⟨by (with_reducible repeat (apply Kd.R_drew)); exact HO_956001.out⟩, ⟨by (with_reducible repeat (apply Kd.R_drew)); exact Kd.R_mono HO972.out (fun _ hk => ⟨hk.1.2, hk.2⟩)⟩, ⟨by (with_reducible repeat (refine blk_drew ?_)); exact BK946.out⟩, ⟨by (with_reducible repeat (refine blk_drew ?_)); exact BK955.out⟩, ⟨by (with_reducible repeat (refine blk_drew ?_)); exact BK974.out⟩, ⟨by repeat ((with_reducible exact HB.out))⟩⟩
           case rest =>
            clear HC65
            try clear c1
            try clear c2
            try clear p2
            try clear c3
            try clear c4
            try clear c4b0
            try clear c5
            try clear c6
            try clear c7
            try clear c8
            try clear c9
            try clear c13
            try clear c20
            try clear c24
            try clear c25
            try clear c27
            try clear c29
            try clear c33
            try clear c36
            try clear c37
            try clear c42
            try clear c42b0
            try clear c44
            try clear c45
            try clear c49
            try clear c51
            try clear c52
            try clear c53
            try clear c56
            try clear c56b0
            try clear c57
            try clear c62
            try clear c62b0
            try clear c62b1
            try clear c66
            try clear c75
            try clear c76
            try clear c80
            try clear c81
            try clear c82
            try clear c84
            try clear c87
            try clear c88
            try clear c90
            try clear hcz14_0
            try clear hcz14_1
            try clear hcz21_0
            try clear hcz21_1
            try clear hcz26_0
            try clear hcz26_1
            try clear hcz27_0
            try clear hcz27_1
            try clear hcz30_0
            try clear hcz30_1
            try clear hcz31_0
            try clear hcz31_1
            try clear hcz46_0
            try clear hcz46_1
            try clear hcz47_0
            try clear hcz47_1
            try clear hcz50_0
            try clear hcz50_1
            try clear hcz51_0
            try clear hcz51_1
            try clear hcz58_0
            try clear hcz58_1
            try clear hcz60_0
            try clear hcz60_1
            try clear hcz67_0
            try clear hcz67_1
            try clear hcz69_0
            try clear hcz69_1
            try clear hcz77_0
            try clear hcz77_1
            try clear hcz83_0
            try clear hcz83_1
            try clear hcz85_0
            try clear hcz85_1
            try clear hcz89_0
            try clear hcz89_1
            try clear hcz91_0
            try clear hcz91_1
            try clear hfz14_0
            try clear hfz14_1
            try clear hfz21_0
            try clear hfz21_1
            try clear hfz26_0
            try clear hfz26_1
            try clear hfz27_0
            try clear hfz27_1
            try clear hfz30_0
            try clear hfz30_1
            try clear hfz31_0
            try clear hfz31_1
            try clear hfz46_0
            try clear hfz46_1
            try clear hfz47_0
            try clear hfz47_1
            try clear hfz50_0
            try clear hfz50_1
            try clear hfz51_0
            try clear hfz51_1
            try clear hfz58_0
            try clear hfz58_1
            try clear hfz60_0
            try clear hfz60_1
            try clear hfz67_0
            try clear hfz67_1
            try clear hfz69_0
            try clear hfz69_1
            try clear hfz77_0
            try clear hfz77_1
            try clear hfz83_0
            try clear hfz83_1
            try clear hfz85_0
            try clear hfz85_1
            try clear hfz89_0
            try clear hfz89_1
            try clear hfz91_0
            try clear hfz91_1
            try clear p2
            obtain ⟨kq, x92_64, rfl, HA, HJ64, HO_947001, HO_956001, HO_975001, BK946, BK955, BK974, HB⟩ := hcut
            have hl956001_64 := (Kd.R_reads' HO_956001.out).1
            rw [hl956001_64] at HO_956001
            skip
            skip
            (try simp only [hl956001_64] at BK955)
            skip
            (try simp only [hl956001_64] at HO_947001)
            (try simp only [hl956001_64] at HO_975001)
            cases kq with
            | zero => exact absurd HA.out (by simp [laws_FnExactSpaceOfClauses.j2])
            | succ kj64 =>
             have H := HA.out
             clear HA
             simp only [laws_FnExactSpaceOfClauses.j2] at H
             by_cases c93 : x92_64 = true
             ·subst c93
              have H1 : (some false) = some r := by rw [if_pos rfl] at H; exact H
              clear H
              have H := H1
              clear H1
              obtain rfl := Option.some.inj H
              go_wp2
              go_ret
              exact ⟨by rfl, by repeat ((with_reducible exact HB.out))⟩
             ·replace c93 := Bool.eq_false_iff.mpr c93
              subst c93
              have H1 : ((laws_heldSpace.f kj64 t950 t964 1).bind fun t976 => (if t976 < 0 then (some false) else (if t976 = t963 then (some true) else (some false)))) = some r := by rw [if_neg (show ¬ (false = true) by decide)] at H; exact H
              clear H
              have H := H1
              clear H1
              replace H := Option.bind_eq_some_iff.mp H
              obtain ⟨t976, A940, H⟩ := H
              replace H : (if t976 < 0 then (some false) else (if t976 = t963 then (some true) else (some false))) = some r := H
              have A94 := Aside0.mk A940
              clear A940
              by_cases c95 : t976 < 0
              ·rw [if_pos c95] at H
               have c95b0 : decide (t976 < 0) = true := decide_eq_true c95
               clear c95
               obtain rfl := Option.some.inj H
               have hnb96 := NB955_946.out
               have hnc96 := NB946_955.out
               have hnb97 := NB955_974.out
               have hnc97 := NB974_955.out
               have hcz98_0 : wc.cell? ⟨gb955, 0, none⟩ = some (.int .i64 t950) := (blk_cell BK955.out 0).trans rfl
               have hcz98_1 : wc.cell? ⟨gb955, 1, none⟩ = some (.slice Ao22 t964.length co22) := (blk_cell BK955.out 1).trans rfl
               have hfz98_0 := blk_frozen BK955.out 0
               have hfz98_1 := blk_frozen BK955.out 1
               go_wp2_with (((with_reducible refine gate_callee (f := 45) rfl ?_); refine goesL_ (some 95) rfl rfl Try.func45 (by kernel_rfl) rfl #[.agg #[.int .i64 t950, .slice Ao22 t964.length co22], .int .i64 1] rfl (by (try simp only [List.map_toArray, List.map_cons, List.map_nil]); rfl) ?_; (with_reducible refine (laws_heldSpace.calls kj64 t950 _ _ t964 1 t976 _ ?side1 ?side2 A94.out).mono ?_); (case side1 => repeat (exact (Kd.R_reads' HO_956001.out).2.2)); (case side2 => exact (Kd.R_reads' HO_956001.out).2.1); rintro e w99 ⟨rfl, hb⟩; refine ⟨_, rfl, ?_⟩; have n0_ := Aside0.mk (Kd.R_below (by (with_reducible repeat (apply Kd.R_drew)); exact HO_947001.out) hb); have n1_ := Aside0.mk (Kd.R_below (by (with_reducible repeat (apply Kd.R_drew)); exact HO_956001.out) hb); have n2_ := Aside0.mk (Kd.R_below (by (with_reducible repeat (apply Kd.R_drew)); exact HO_975001.out) hb); have n3_ := Aside0.mk (blk_below (g := gb946) (o := .cells #[.int .i64 t941, .slice Ao15 t942.length co15] 37 (0, 0)) (by (with_reducible repeat (refine blk_drew ?_)); exact BK946.out) hb); have n4_ := Aside0.mk (blk_below (g := gb955) (o := .cells #[.int .i64 t950, .slice Ao22 t964.length co22] 37 (0, 0)) (by (with_reducible repeat (refine blk_drew ?_)); exact BK955.out) hb); have n5_ := Aside0.mk (blk_below (g := gb974) (o := .cells #[.int .i64 t969, .slice Ao78 t970.length co78] 37 (0, 0)) (by (with_reducible repeat (refine blk_drew ?_)); exact BK974.out) hb); have n6_ := Aside0.mk (below_step (by repeat ((with_reducible exact HB.out))) hb); clear HO_947001; clear HO_956001; clear HO_975001; clear BK946; clear BK955; clear BK974; clear HB; have HO_947001 := n0_; have HO_956001 := n1_; have HO_975001 := n2_; have BK946 := n3_; have BK955 := n4_; have BK974 := n5_; have HB := n6_; clear n0_ n1_ n2_ n3_ n4_ n5_ n6_; (try clear hb); skip))
               go_ret
               exact ⟨by rfl, by repeat ((with_reducible exact HB.out))⟩
              ·rw [if_neg c95] at H
               have c95b0 : decide (t976 < 0) = false := decide_eq_false c95
               clear c95
               by_cases c100 : t976 = t963
               ·rw [if_pos c100] at H
                have c100b0 : (t976 == t963) = true := beq_iff_eq.mpr c100
                have c100b1 : (t976 != t963) = false := bne_eq_false_iff_eq.mpr c100
                clear c100
                obtain rfl := Option.some.inj H
                have hnb101 := NB955_946.out
                have hnc101 := NB946_955.out
                have hnb102 := NB955_974.out
                have hnc102 := NB974_955.out
                have hcz103_0 : wc.cell? ⟨gb955, 0, none⟩ = some (.int .i64 t950) := (blk_cell BK955.out 0).trans rfl
                have hcz103_1 : wc.cell? ⟨gb955, 1, none⟩ = some (.slice Ao22 t964.length co22) := (blk_cell BK955.out 1).trans rfl
                have hfz103_0 := blk_frozen BK955.out 0
                have hfz103_1 := blk_frozen BK955.out 1
                go_wp2_with (((with_reducible refine gate_callee (f := 45) rfl ?_); refine goesL_ (some 95) rfl rfl Try.func45 (by kernel_rfl) rfl #[.agg #[.int .i64 t950, .slice Ao22 t964.length co22], .int .i64 1] rfl (by (try simp only [List.map_toArray, List.map_cons, List.map_nil]); rfl) ?_; (with_reducible refine (laws_heldSpace.calls kj64 t950 _ _ t964 1 t976 _ ?side1 ?side2 A94.out).mono ?_); (case side1 => repeat (exact (Kd.R_reads' HO_956001.out).2.2)); (case side2 => exact (Kd.R_reads' HO_956001.out).2.1); rintro e w104 ⟨rfl, hb⟩; refine ⟨_, rfl, ?_⟩; have n0_ := Aside0.mk (Kd.R_below (by (with_reducible repeat (apply Kd.R_drew)); exact HO_947001.out) hb); have n1_ := Aside0.mk (Kd.R_below (by (with_reducible repeat (apply Kd.R_drew)); exact HO_956001.out) hb); have n2_ := Aside0.mk (Kd.R_below (by (with_reducible repeat (apply Kd.R_drew)); exact HO_975001.out) hb); have n3_ := Aside0.mk (blk_below (g := gb946) (o := .cells #[.int .i64 t941, .slice Ao15 t942.length co15] 37 (0, 0)) (by (with_reducible repeat (refine blk_drew ?_)); exact BK946.out) hb); have n4_ := Aside0.mk (blk_below (g := gb955) (o := .cells #[.int .i64 t950, .slice Ao22 t964.length co22] 37 (0, 0)) (by (with_reducible repeat (refine blk_drew ?_)); exact BK955.out) hb); have n5_ := Aside0.mk (blk_below (g := gb974) (o := .cells #[.int .i64 t969, .slice Ao78 t970.length co78] 37 (0, 0)) (by (with_reducible repeat (refine blk_drew ?_)); exact BK974.out) hb); have n6_ := Aside0.mk (below_step (by repeat ((with_reducible exact HB.out))) hb); clear HO_947001; clear HO_956001; clear HO_975001; clear BK946; clear BK955; clear BK974; clear HB; have HO_947001 := n0_; have HO_956001 := n1_; have HO_975001 := n2_; have BK946 := n3_; have BK955 := n4_; have BK974 := n5_; have HB := n6_; clear n0_ n1_ n2_ n3_ n4_ n5_ n6_; (try clear hb); skip))
                go_ret
                exact ⟨by rfl, by repeat ((with_reducible exact HB.out))⟩
               ·rw [if_neg c100] at H
                have c100b0 : (t976 == t963) = false := beq_eq_false_iff_ne.mpr c100
                have c100b1 : (t976 != t963) = true := bne_iff_ne.mpr c100
                obtain rfl := Option.some.inj H
                have hnb105 := NB955_946.out
                have hnc105 := NB946_955.out
                have hnb106 := NB955_974.out
                have hnc106 := NB974_955.out
                have hcz107_0 : wc.cell? ⟨gb955, 0, none⟩ = some (.int .i64 t950) := (blk_cell BK955.out 0).trans rfl
                have hcz107_1 : wc.cell? ⟨gb955, 1, none⟩ = some (.slice Ao22 t964.length co22) := (blk_cell BK955.out 1).trans rfl
                have hfz107_0 := blk_frozen BK955.out 0
                have hfz107_1 := blk_frozen BK955.out 1
                go_wp2_with (((with_reducible refine gate_callee (f := 45) rfl ?_); refine goesL_ (some 95) rfl rfl Try.func45 (by kernel_rfl) rfl #[.agg #[.int .i64 t950, .slice Ao22 t964.length co22], .int .i64 1] rfl (by (try simp only [List.map_toArray, List.map_cons, List.map_nil]); rfl) ?_; (with_reducible refine (laws_heldSpace.calls kj64 t950 _ _ t964 1 t976 _ ?side1 ?side2 A94.out).mono ?_); (case side1 => repeat (exact (Kd.R_reads' HO_956001.out).2.2)); (case side2 => exact (Kd.R_reads' HO_956001.out).2.1); rintro e w108 ⟨rfl, hb⟩; refine ⟨_, rfl, ?_⟩; have n0_ := Aside0.mk (Kd.R_below (by (with_reducible repeat (apply Kd.R_drew)); exact HO_947001.out) hb); have n1_ := Aside0.mk (Kd.R_below (by (with_reducible repeat (apply Kd.R_drew)); exact HO_956001.out) hb); have n2_ := Aside0.mk (Kd.R_below (by (with_reducible repeat (apply Kd.R_drew)); exact HO_975001.out) hb); have n3_ := Aside0.mk (blk_below (g := gb946) (o := .cells #[.int .i64 t941, .slice Ao15 t942.length co15] 37 (0, 0)) (by (with_reducible repeat (refine blk_drew ?_)); exact BK946.out) hb); have n4_ := Aside0.mk (blk_below (g := gb955) (o := .cells #[.int .i64 t950, .slice Ao22 t964.length co22] 37 (0, 0)) (by (with_reducible repeat (refine blk_drew ?_)); exact BK955.out) hb); have n5_ := Aside0.mk (blk_below (g := gb974) (o := .cells #[.int .i64 t969, .slice Ao78 t970.length co78] 37 (0, 0)) (by (with_reducible repeat (refine blk_drew ?_)); exact BK974.out) hb); have n6_ := Aside0.mk (below_step (by repeat ((with_reducible exact HB.out))) hb); clear HO_947001; clear HO_956001; clear HO_975001; clear BK946; clear BK955; clear BK974; clear HB; have HO_947001 := n0_; have HO_956001 := n1_; have HO_975001 := n2_; have BK946 := n3_; have BK955 := n4_; have BK974 := n5_; have HB := n6_; clear n0_ n1_ n2_ n3_ n4_ n5_ n6_; (try clear hb); skip))
                go_ret
                exact ⟨by rfl, by repeat ((with_reducible exact HB.out))⟩
          ·rw [if_neg c62] at H
           have c62b0 : (t965 == t963) = false := beq_eq_false_iff_ne.mpr c62
           have c62b1 : (t965 != t963) = true := bne_iff_ne.mpr c62
           obtain rfl := Option.some.inj H
           have hnb109 := NB955_946.out
           have hnc109 := NB946_955.out
           have hcz110_0 : wc.cell? ⟨gb955, 0, none⟩ = some (.int .i64 t950) := (blk_cell BK955.out 0).trans rfl
           have hcz110_1 : wc.cell? ⟨gb955, 1, none⟩ = some (.slice Ao22 t951.length co22) := (blk_cell BK955.out 1).trans rfl
           have hfz110_0 := blk_frozen BK955.out 0
           have hfz110_1 := blk_frozen BK955.out 1
           go_wp2_with (first | ((with_reducible refine gate_callee (f := 37) rfl ?_); refine goesL_ (some 68) rfl rfl Try.func37 (by kernel_rfl) rfl #[.agg #[.int .i64 t950, .slice Ao22 t951.length co22], .int .i64 1] rfl (by (try simp only [List.map_toArray, List.map_cons, List.map_nil]); rfl) ?_; (with_reducible refine (laws_markSpace.calls kj37 t950 (fun k_ => some k_ = (.slice Ao22 t951.length co22 : Value).ownBlock) (.slice Ao22 t951.length co22) t951 1 t963 t964 w _ ?side1 ?side2 A54.out).mono ?_); (case side1 => repeat ((with_reducible exact HB.out))); (case side2 => exact Kd.R_tight rfl HO_956001.out); rintro e w111 ⟨rfl, hy0, hb, hkp⟩; refine ⟨_, rfl, ?_⟩; have n0_ := Aside0.mk (Kd.R_mono (ok' := fun k_ => some k_ ≠ (.slice Ao22 t951.length co22 : Value).ownBlock) (Kd.R_keptB (HO_947001.out) hkp (fun k_ hk_ hs_ => (hk_) hs_)) (fun k_ hk_ => hk_.1)); have n1_ := Aside0.mk (Kd.R_reok rfl hy0 (fun k_ e_ => HO_956001.out.1 k_ e_)); have n2_ := Aside0.mk (blk_kept (by (with_reducible repeat (refine blk_drew ?_)); exact BK946.out) hkp (fun hs_ => (fun e_ => (Kd.R_ne HO_956001.out BK946.out (by decide)) e_) hs_)); have n3_ := Aside0.mk (blk_kept (by (with_reducible repeat (refine blk_drew ?_)); exact BK955.out) hkp (fun hs_ => (fun e_ => (Kd.R_ne HO_956001.out BK955.out (by decide)) e_) hs_)); have n4_ := Aside0.mk (hb); clear HO_947001; clear HO_956001; clear BK946; clear BK955; clear HB; have HO_947001 := n0_; have HO_956001 := n1_; have BK946 := n2_; have BK955 := n3_; have HB := n4_; clear n0_ n1_ n2_ n3_ n4_; (try clear hb); (try clear hkp); (try clear hy0); have hcz112_0 : w111.cell? ⟨gb955, 0, none⟩ = some (.int .i64 t950) := (blk_cell BK955.out 0).trans rfl; have hcz112_1 : w111.cell? ⟨gb955, 1, none⟩ = some (.slice Ao22 t951.length co22) := (blk_cell BK955.out 1).trans rfl; have hfz112_0 := blk_frozen BK955.out 0; have hfz112_1 := blk_frozen BK955.out 1) | ((with_reducible refine gate_callee (f := 45) rfl ?_); refine goesL_ (some 71) rfl rfl Try.func45 (by kernel_rfl) rfl #[.agg #[.int .i64 t950, .slice Ao22 t964.length co22], .int .i64 1] rfl (by (try simp only [List.map_toArray, List.map_cons, List.map_nil]); (rw [show t964.length = t951.length from (Kd.R_reads' HO_956001.out).1.symm] <;> rfl)) ?_; (with_reducible refine (laws_heldSpace.calls kj37 t950 _ _ t964 1 t965 _ ?side1 ?side2 A55.out).mono ?_); (case side1 => repeat (exact (Kd.R_reads' HO_956001.out).2.2)); (case side2 => rw [show t964.length = t951.length from (Kd.R_reads' HO_956001.out).1.symm]; exact (Kd.R_reads' HO_956001.out).2.1); rintro e w113 ⟨rfl, hb⟩; refine ⟨_, rfl, ?_⟩; have n0_ := Aside0.mk (Kd.R_below (by (with_reducible repeat (apply Kd.R_drew)); exact HO_947001.out) hb); have n1_ := Aside0.mk (Kd.R_below (by (with_reducible repeat (apply Kd.R_drew)); exact HO_956001.out) hb); have n2_ := Aside0.mk (blk_below (g := gb946) (o := .cells #[.int .i64 t941, .slice Ao15 t942.length co15] 37 (0, 0)) (by (with_reducible repeat (refine blk_drew ?_)); exact BK946.out) hb); have n3_ := Aside0.mk (blk_below (g := gb955) (o := .cells #[.int .i64 t950, .slice Ao22 t951.length co22] 37 (0, 0)) (by (with_reducible repeat (refine blk_drew ?_)); exact BK955.out) hb); have n4_ := Aside0.mk (below_step (by repeat ((with_reducible exact HB.out))) hb); clear HO_947001; clear HO_956001; clear BK946; clear BK955; clear HB; have HO_947001 := n0_; have HO_956001 := n1_; have BK946 := n2_; have BK955 := n3_; have HB := n4_; clear n0_ n1_ n2_ n3_ n4_; (try clear hb); skip))
           go_ret
           exact ⟨by rfl, by repeat ((with_reducible exact HB.out))⟩
     ·replace c36 := Bool.eq_false_iff.mpr c36
      subst c36
      have H1 : (some false) = some r := by rw [if_neg (show ¬ (false = true) by decide)] at H; exact H
      clear H
      have H := H1
      clear H1
      obtain rfl := Option.some.inj H
      go_wp2_with (first | ((with_reducible refine gate_callee (f := 27) rfl ?_); refine goesL_ (some 47) rfl rfl Try.func27 (by kernel_rfl) rfl #[.slice A1 l1.length c1] rfl (by (try simp only [List.map_toArray, List.map_cons, List.map_nil]); rfl) ?_; (with_reducible refine (laws_toIntSS.calls kj8 _ _ l1 t957 _ ?side1 ?side2 A34.out).mono ?_); (case side1 => repeat (exact (Kd.C_below HR1.out HB.out))); (case side2 => exact HC1.out); rintro e w114 ⟨v958, rfl, ho0, hb⟩; refine ⟨_, rfl, ?_⟩; have n0_ := Aside0.mk (Kd.S_elder' (by (with_reducible repeat (apply Kd.S_drew)); exact HO_8.out) (Kd.S_base ho0) hb); have n1_ := Aside0.mk (Kd.R_below (by (with_reducible repeat (apply Kd.R_drew)); exact HO_947001.out) hb); have n2_ := Aside0.mk (Kd.R_below (by (with_reducible repeat (apply Kd.R_drew)); exact HO_956001.out) hb); have n3_ := Aside0.mk (Kd.S_lower (Kd.S_new' (Kd.S_new' (Kd.S_new' ho0 (Kd.S_lt (by (with_reducible repeat (apply Kd.S_drew)); exact HO_8.out))) (Kd.R_lt (by (with_reducible repeat (apply Kd.R_drew)); exact HO_947001.out))) (Kd.R_lt (by (with_reducible repeat (apply Kd.R_drew)); exact HO_956001.out))) (below_size (by repeat ((with_reducible exact HB.out))))); have n4_ := Aside0.mk (blk_below (g := gb946) (o := .cells #[.int .i64 t941, .slice Ao15 t942.length co15] 37 (0, 0)) (by (with_reducible repeat (refine blk_drew ?_)); exact BK946.out) hb); have n5_ := Aside0.mk (blk_below (g := gb955) (o := .cells #[.int .i64 t950, .slice Ao22 t951.length co22] 37 (0, 0)) (by (with_reducible repeat (refine blk_drew ?_)); exact BK955.out) hb); have n6_ := Aside0.mk (below_step (by repeat ((with_reducible exact HB.out))) hb); clear HO_8; clear HO_947001; clear HO_956001; clear BK946; clear BK955; clear HB; have HO_8 := n0_; have HO_947001 := n1_; have HO_956001 := n2_; have HO959 := n3_; have BK946 := n4_; have BK955 := n5_; have HB := n6_; clear n0_ n1_ n2_ n3_ n4_ n5_ n6_; (try clear hb); (try clear ho0); obtain ⟨Ao115, co115, eo115⟩ := Kd.S_slice HO959.out; subst eo115) | ((with_reducible refine gate_callee (f := 29) rfl ?_); refine goesL_ (some 48) rfl rfl Try.func29 (by kernel_rfl) rfl #[.slice Ao17 t947.length co17, .slice Ao115 t957.length co115] rfl (by (try simp only [List.map_toArray, List.map_cons, List.map_nil]); rfl) ?_; (with_reducible refine (laws_eqIntSS.calls kj8 _ _ t947 _ _ t957 false _ ?side1 ?side2 ?side3 ?side4 A35.out).mono ?_); (case side1 => repeat (exact (Kd.S_reads' HO_8.out).2.2)); (case side2 => exact (Kd.S_reads' HO_8.out).2.1); (case side3 => repeat (exact (Kd.S_reads' HO959.out).2.2)); (case side4 => exact (Kd.S_reads' HO959.out).2.1); rintro e w' ⟨rfl, ⟨nd, rfl⟩⟩; refine ⟨_, rfl, ?_⟩))
      go_ret
      exact ⟨by rfl, by repeat ((with_reducible first | exact HB.out | apply pw_below_drewN))⟩

/-- THE ONE PURE STATEMENT of laws_FnExactSpaceOfClauses. -/
def laws_FnExactSpaceOfClauses.Pure : Prop := ∀ (a0 : Int) (l1 : List (List Int)), (Lit.int .i64 a0).wf = true → l1.length ≤ maxLen → (∀ r ∈ l1, r.length ≤ maxLen ∧ ∀ x ∈ r, (Lit.int .i64 x).wf = true) → ∃ k, laws_FnExactSpaceOfClauses.f k a0 l1 = some true
theorem laws_FnExactSpaceOfClauses.walk (P : laws_FnExactSpaceOfClauses.Pure) (a0 : Int) (A1 : Option Addr) (c1 : Nat) (l1 : List (List Int)) (w : World) (w0 : (Lit.int .i64 a0).wf = true) (hr1 : Kd.C (Kd.slice 3 (Kd.int .i64)) w A1 l1.length l1) (hc1 : l1.length ≤ c1) (hm1 : l1.length ≤ maxLen) (hw1 : ∀ r ∈ l1, r.length ≤ maxLen ∧ ∀ x ∈ r, (Lit.int .i64 x).wf = true) :
  Calls Try.prog 13 #[.int .i64 a0, .slice A1 l1.length c1] w fun e w' => e = .returned (.bool true) ∧ Below w.heap.size w w' := by
 obtain ⟨k, h⟩ := P a0 l1 w0 hm1 hw1
 refine (laws_FnExactSpaceOfClauses.calls k a0 A1 c1 l1 true w hr1 hc1 h).mono ?_
 rintro e w' ⟨rfl, hd⟩
 exact ⟨rfl, hd⟩

end Go.Proofs.Ythpbmecinoninaa.P
