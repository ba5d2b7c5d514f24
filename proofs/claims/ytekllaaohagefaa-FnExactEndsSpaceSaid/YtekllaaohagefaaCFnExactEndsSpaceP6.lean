/- Functions of the program as plain Lean functions, each with a proof that the Go code computes it; written by a program of this session. Conditions: as each theorem states. -/
import Derived.Test.YtekllaaohagefaaCFnExactEndsSpaceP5
namespace Go.Proofs.Ytekllaaohagefaa.P
open Go.RowKit Go.Proofs.YtekllaaohagefaaW.PrintWords Go.Proofs.YtekllaaohagefaaW.PrintLast Go.Proofs.YtekllaaohagefaaW.PrintMore
attribute [local go_sem] max2_int min2_int max_two min_two max_three min_three max_four min_four   -- for this text's walks alone
set_option linter.unusedVariables false
set_option linter.unusedSimpArgs false

/-! ### laws_FnExactEndsSpace: function 6 -/
mutual
def laws_FnExactEndsSpace.j0 : Nat → Int → List (List Int) → Bool → List (List Int) → Bool → Bool → Int → List Int → Int → List Int → Option (Bool)
 | 0, _, _, _, _, _, _, _, _, _, _ => none
 | k + 1, x0, x1, x7, x8, x10, x44, x465000, x465001, x474000, x474001 => if x44 = true then (some false) else ((laws_toIntSS.f k x1).bind fun t475 => ((laws_eqIntSS.f k x8 t475).bind fun t478 => (if t478 = true then ((laws_markIntSS.f k x8 1).bind fun bt479 => (if bt479.1 < 0 then (laws_FnExactEndsSpace.j1 k x0 x1 x7 true x465000 x465001 x474000 x474001) else ((laws_eqSpace.f k x474000 x474001 x465000 x465001).bind fun t481 => (if t481 = true then (laws_FnExactEndsSpace.j1 k x0 x1 x7 (x10 != x7) x465000 x465001 x474000 x474001) else (laws_FnExactEndsSpace.j1 k x0 x1 x7 true x465000 x465001 x474000 x474001))))) else (some false))))
def laws_FnExactEndsSpace.j1 : Nat → Int → List (List Int) → Bool → Bool → Int → List Int → Int → List Int → Option (Bool)
 | 0, _, _, _, _, _, _, _, _ => none
 | k + 1, x0, x1, x7, x65, x465000, x465001, x474000, x474001 => if x65 = true then (some false) else ((laws_markSpace.f k x474000 x474001 1).bind fun bt482 => ((laws_heldSpace.f k x474000 bt482.2 1).bind fun t484 => (if t484 < 0 then (some false) else (if t484 = bt482.1 then ((laws_toIntSS.f k x1).bind fun t485 => ((impl_EndsSpace.f k x0 t485).bind fun bt488 => ((laws_eqSpace.f k bt488.1 bt488.2.1 x465000 x465001).bind fun t494 => (if t494 = true then (laws_FnExactEndsSpace.j2 k bt482.1 (bt488.2.2 != x7) x474000 bt482.2) else (laws_FnExactEndsSpace.j2 k bt482.1 true x474000 bt482.2))))) else (some false)))))
def laws_FnExactEndsSpace.j2 : Nat → Int → Bool → Int → List Int → Option (Bool)
 | 0, _, _, _, _ => none
 | k + 1, x12, x92, x474000, x474001 => if x92 = true then (some false) else ((laws_heldSpace.f k x474000 x474001 1).bind fun t495 => (if t495 < 0 then (some false) else (if t495 = x12 then (some true) else (some false))))
end
def laws_FnExactEndsSpace.f (k : Nat) (a0 : Int) (l1 : List (List Int)) : Option (Bool) := (laws_szIntSS.f k l1 1048576).bind fun t455 => (if t455 < 0 then (some true) else ((laws_toIntSS.f k l1).bind fun t456 => ((spec_EndsSpace.f k a0 t456).bind fun bt459 => ((laws_toIntSS.f k l1).bind fun t465 => ((impl_EndsSpace.f k a0 t465).bind fun bt468 => ((laws_eqSpace.f k bt468.1 bt468.2.1 bt459.1 bt459.2.1).bind fun t474 => (if t474 = true then (laws_FnExactEndsSpace.j0 k a0 l1 bt459.2.2 t465 bt468.2.2 (bt468.2.2 != bt459.2.2) bt459.1 bt459.2.1 bt468.1 bt468.2.1) else (laws_FnExactEndsSpace.j0 k a0 l1 bt459.2.2 t465 bt468.2.2 true bt459.1 bt459.2.1 bt468.1 bt468.2.1))))))))
theorem laws_FnExactEndsSpace.mono_l : ∀ k, (∀ y0 y1 y2 y3 y4 y5 y6 y7 y8 y9, LeO (laws_FnExactEndsSpace.j0 k y0 y1 y2 y3 y4 y5 y6 y7 y8 y9) (laws_FnExactEndsSpace.j0 (k + 1) y0 y1 y2 y3 y4 y5 y6 y7 y8 y9)) ∧ (∀ y0 y1 y2 y3 y4 y5 y6 y7, LeO (laws_FnExactEndsSpace.j1 k y0 y1 y2 y3 y4 y5 y6 y7) (laws_FnExactEndsSpace.j1 (k + 1) y0 y1 y2 y3 y4 y5 y6 y7)) ∧ (∀ y0 y1 y2 y3, LeO (laws_FnExactEndsSpace.j2 k y0 y1 y2 y3) (laws_FnExactEndsSpace.j2 (k + 1) y0 y1 y2 y3))
 | 0 => ⟨fun _ _ _ _ _ _ _ _ _ _ r h => by simp [laws_FnExactEndsSpace.j0] at h, fun _ _ _ _ _ _ _ _ r h => by simp [laws_FnExactEndsSpace.j1] at h, fun _ _ _ _ r h => by simp [laws_FnExactEndsSpace.j2] at h⟩
 | k + 1 => by
  obtain ⟨ih0, ih1, ih2⟩ := laws_FnExactEndsSpace.mono_l k
  refine ⟨?_, ?_, ?_⟩
  ·intro y0 y1 y2 y3 y4 y5 y6 y7 y8 y9
   unfold laws_FnExactEndsSpace.j0
   repeat' first
   | (with_reducible exact ih1 _ _ _ _ _ _ _ _)
   | (with_reducible exact laws_eqIntSS.mono _ _ _)
   | (with_reducible exact laws_eqSpace.mono _ _ _ _ _)
   | (with_reducible exact laws_markIntSS.mono _ _ _)
   | (with_reducible exact laws_toIntSS.mono _ _)
   | (with_reducible exact LeO.refl _)
   | (with_reducible refine LeO.ite ?_ ?_)
   | (with_reducible refine LeO.bind ?_ (fun _ => ?_))
  ·intro y0 y1 y2 y3 y4 y5 y6 y7
   unfold laws_FnExactEndsSpace.j1
   repeat' first
   | (with_reducible exact ih2 _ _ _ _)
   | (with_reducible exact impl_EndsSpace.mono _ _ _)
   | (with_reducible exact laws_eqSpace.mono _ _ _ _ _)
   | (with_reducible exact laws_heldSpace.mono _ _ _ _)
   | (with_reducible exact laws_markSpace.mono _ _ _ _)
   | (with_reducible exact laws_toIntSS.mono _ _)
   | (with_reducible exact LeO.refl _)
   | (with_reducible refine LeO.ite ?_ ?_)
   | (with_reducible refine LeO.bind ?_ (fun _ => ?_))
  ·intro y0 y1 y2 y3
   unfold laws_FnExactEndsSpace.j2
   repeat' first
   | (with_reducible exact laws_heldSpace.mono _ _ _ _)
   | (with_reducible exact LeO.refl _)
   | (with_reducible refine LeO.ite ?_ ?_)
   | (with_reducible refine LeO.bind ?_ (fun _ => ?_))
theorem laws_FnExactEndsSpace.mono : ∀ a0 a1 k, LeO (laws_FnExactEndsSpace.f k a0 a1) (laws_FnExactEndsSpace.f (k + 1) a0 a1) := by
 intro a0 a1 k
 obtain ⟨ih0, ih1, ih2⟩ := laws_FnExactEndsSpace.mono_l k
 unfold laws_FnExactEndsSpace.f
 repeat' first
   | (with_reducible exact ih0 _ _ _ _ _ _ _ _ _ _)
   | (with_reducible exact impl_EndsSpace.mono _ _ _)
   | (with_reducible exact laws_eqSpace.mono _ _ _ _ _)
   | (with_reducible exact laws_szIntSS.mono _ _ _)
   | (with_reducible exact laws_toIntSS.mono _ _)
   | (with_reducible exact spec_EndsSpace.mono _ _ _)
   | (with_reducible exact LeO.refl _)
   | (with_reducible refine LeO.ite ?_ ?_)
   | (with_reducible refine LeO.bind ?_ (fun _ => ?_))
set_option maxHeartbeats 8000000 in
set_option maxRecDepth 100000 in
theorem laws_FnExactEndsSpace.calls (k : Nat) (a0 : Int) (A1 : Option Addr) (c1 : Nat) (l1 : List (List Int)) (r : Bool) (w : World) (hr1 : Kd.C (Kd.slice 3 (Kd.int .i64)) w A1 l1.length l1) (hc1 : l1.length ≤ c1) (h : laws_FnExactEndsSpace.f k a0 l1 = some r) :
  Calls Try.prog 6 #[.int .i64 a0, .slice A1 l1.length c1] w fun e w' => e = .returned (.bool r) ∧ Below w.heap.size w w' := by
 have hu28 := Try.underlying28
 have HR1 := Aside0.mk hr1
 have HC1 := Aside0.mk hc1
 clear hr1 hc1
 have HB := Aside0.mk (Below.refl w.heap.size w)
 have H : ((laws_szIntSS.f k l1 1048576).bind fun t455 => (if t455 < 0 then (some true) else ((laws_toIntSS.f k l1).bind fun t456 => ((spec_EndsSpace.f k a0 t456).bind fun bt459 => ((laws_toIntSS.f k l1).bind fun t465 => ((impl_EndsSpace.f k a0 t465).bind fun bt468 => ((laws_eqSpace.f k bt468.1 bt468.2.1 bt459.1 bt459.2.1).bind fun t474 => (if t474 = true then (laws_FnExactEndsSpace.j0 k a0 l1 bt459.2.2 t465 bt468.2.2 (bt468.2.2 != bt459.2.2) bt459.1 bt459.2.1 bt468.1 bt468.2.1) else (laws_FnExactEndsSpace.j0 k a0 l1 bt459.2.2 t465 bt468.2.2 true bt459.1 bt459.2.1 bt468.1 bt468.2.1))))))))) = some r := h
 clear h
 replace H := Option.bind_eq_some_iff.mp H
 obtain ⟨t455, A30, H⟩ := H
 replace H : (if t455 < 0 then (some true) else ((laws_toIntSS.f k l1).bind fun t456 => ((spec_EndsSpace.f k a0 t456).bind fun bt459 => ((laws_toIntSS.f k l1).bind fun t465 => ((impl_EndsSpace.f k a0 t465).bind fun bt468 => ((laws_eqSpace.f k bt468.1 bt468.2.1 bt459.1 bt459.2.1).bind fun t474 => (if t474 = true then (laws_FnExactEndsSpace.j0 k a0 l1 bt459.2.2 t465 bt468.2.2 (bt468.2.2 != bt459.2.2) bt459.1 bt459.2.1 bt468.1 bt468.2.1) else (laws_FnExactEndsSpace.j0 k a0 l1 bt459.2.2 t465 bt468.2.2 true bt459.1 bt459.2.1 bt468.1 bt468.2.1)))))))) = some r := H
 have A3 := Aside0.mk A30
 clear A30
 by_cases c4 : t455 < 0
 ·rw [if_pos c4] at H
  have c4b0 : decide (t455 < 0) = true := decide_eq_true c4
  clear c4
  obtain rfl := Option.some.inj H
  go_enter Try.func6, Try.ntmps6
  go_wp2_with (((with_reducible refine gate_callee (f := 21) rfl ?_); refine goesL_ (some 18) rfl rfl Try.func21 (by kernel_rfl) rfl #[.slice A1 l1.length c1, .int .i64 1048576] rfl (by (try simp only [List.map_toArray, List.map_cons, List.map_nil]); rfl) ?_; (with_reducible refine (laws_szIntSS.calls k _ _ l1 1048576 t455 _ ?side1 ?side2 A3.out).mono ?_); (case side1 => repeat (exact HR1.out)); (case side2 => exact HC1.out); rintro e w' ⟨rfl, ⟨nd, rfl⟩⟩; refine ⟨_, rfl, ?_⟩))
  go_ret
  exact ⟨by rfl, by repeat ((with_reducible first | exact HB.out | apply pw_below_drewN))⟩
 ·rw [if_neg c4] at H
  have c4b0 : decide (t455 < 0) = false := decide_eq_false c4
  clear c4
  replace H := Option.bind_eq_some_iff.mp H
  obtain ⟨t456, A50, H⟩ := H
  replace H : ((spec_EndsSpace.f k a0 t456).bind fun bt459 => ((laws_toIntSS.f k l1).bind fun t465 => ((impl_EndsSpace.f k a0 t465).bind fun bt468 => ((laws_eqSpace.f k bt468.1 bt468.2.1 bt459.1 bt459.2.1).bind fun t474 => (if t474 = true then (laws_FnExactEndsSpace.j0 k a0 l1 bt459.2.2 t465 bt468.2.2 (bt468.2.2 != bt459.2.2) bt459.1 bt459.2.1 bt468.1 bt468.2.1) else (laws_FnExactEndsSpace.j0 k a0 l1 bt459.2.2 t465 bt468.2.2 true bt459.1 bt459.2.1 bt468.1 bt468.2.1)))))) = some r := H
  have A5 := Aside0.mk A50
  clear A50
  replace H := Option.bind_eq_some_iff.mp H
  obtain ⟨⟨t459, t460, t463⟩, A60, H⟩ := H
  replace H : ((laws_toIntSS.f k l1).bind fun t465 => ((impl_EndsSpace.f k a0 t465).bind fun bt468 => ((laws_eqSpace.f k bt468.1 bt468.2.1 t459 t460).bind fun t474 => (if t474 = true then (laws_FnExactEndsSpace.j0 k a0 l1 t463 t465 bt468.2.2 (bt468.2.2 != t463) t459 t460 bt468.1 bt468.2.1) else (laws_FnExactEndsSpace.j0 k a0 l1 t463 t465 bt468.2.2 true t459 t460 bt468.1 bt468.2.1))))) = some r := H
  have A6 := Aside0.mk A60
  clear A60
  replace H := Option.bind_eq_some_iff.mp H
  obtain ⟨t465, A70, H⟩ := H
  replace H : ((impl_EndsSpace.f k a0 t465).bind fun bt468 => ((laws_eqSpace.f k bt468.1 bt468.2.1 t459 t460).bind fun t474 => (if t474 = true then (laws_FnExactEndsSpace.j0 k a0 l1 t463 t465 bt468.2.2 (bt468.2.2 != t463) t459 t460 bt468.1 bt468.2.1) else (laws_FnExactEndsSpace.j0 k a0 l1 t463 t465 bt468.2.2 true t459 t460 bt468.1 bt468.2.1)))) = some r := H
  have A7 := Aside0.mk A70
  clear A70
  replace H := Option.bind_eq_some_iff.mp H
  obtain ⟨⟨t468, t469, t472⟩, A80, H⟩ := H
  replace H : ((laws_eqSpace.f k t468 t469 t459 t460).bind fun t474 => (if t474 = true then (laws_FnExactEndsSpace.j0 k a0 l1 t463 t465 t472 (t472 != t463) t459 t460 t468 t469) else (laws_FnExactEndsSpace.j0 k a0 l1 t463 t465 t472 true t459 t460 t468 t469))) = some r := H
  have A8 := Aside0.mk A80
  clear A80
  have HC9 := Aside0.mk H
  clear H
  go_enter Try.func6, Try.ntmps6
  go_upto_region 8 with (first | ((with_reducible refine gate_callee (f := 21) rfl ?_); refine goesL_ (some 18) rfl rfl Try.func21 (by kernel_rfl) rfl #[.slice A1 l1.length c1, .int .i64 1048576] rfl (by (try simp only [List.map_toArray, List.map_cons, List.map_nil]); rfl) ?_; (with_reducible refine (laws_szIntSS.calls k _ _ l1 1048576 t455 _ ?side1 ?side2 A3.out).mono ?_); (case side1 => repeat (exact HR1.out)); (case side2 => exact HC1.out); rintro e w' ⟨rfl, ⟨nd, rfl⟩⟩; refine ⟨_, rfl, ?_⟩) | ((with_reducible refine gate_callee (f := 23) rfl ?_); refine goesL_ (some 24) rfl rfl Try.func23 (by kernel_rfl) rfl #[.slice A1 l1.length c1] rfl (by (try simp only [List.map_toArray, List.map_cons, List.map_nil]); rfl) ?_; (with_reducible refine (laws_toIntSS.calls k _ _ l1 t456 _ ?side1 ?side2 A5.out).mono ?_); (case side1 => repeat (exact HR1.out)); (case side2 => exact HC1.out); rintro e w10 ⟨v457, rfl, ho0, hb⟩; refine ⟨_, rfl, ?_⟩; have n0_ := Aside0.mk (Kd.S_lower ho0 (below_size (by repeat ((with_reducible first | exact HB.out | apply pw_below_drewN))))); have n1_ := Aside0.mk (below_step (by repeat ((with_reducible first | exact HB.out | apply pw_below_drewN))) hb); clear HB; have HO458 := n0_; have HB := n1_; clear n0_ n1_; (try clear hb); (try clear ho0); obtain ⟨Ao11, co11, eo11⟩ := Kd.S_slice HO458.out; subst eo11) | ((with_reducible refine gate_callee (f := 22) rfl ?_); refine goesL_ (some 25) rfl rfl Try.func22 (by kernel_rfl) rfl #[.int .i64 a0, .slice Ao11 t456.length co11] rfl (by (try simp only [List.map_toArray, List.map_cons, List.map_nil]); rfl) ?_; (with_reducible refine (spec_EndsSpace.calls k a0 _ _ t456 t459 t460 t463 _ ?side1 ?side2 A6.out).mono ?_); (case side1 => repeat (exact (Kd.S_reads' HO458.out).2.2)); (case side2 => exact (Kd.S_reads' HO458.out).2.1); rintro e w12 ⟨v461, rfl, ho0, hb⟩; refine ⟨_, rfl, ?_⟩; have n0_ := Aside0.mk (Kd.S_elder' (by (with_reducible repeat (apply Kd.S_drew)); exact HO458.out) (Kd.R_base ho0) hb); have n1_ := Aside0.mk (Kd.R_lower ho0 (below_size (by repeat ((with_reducible exact HB.out))))); have n2_ := Aside0.mk (below_step (by repeat ((with_reducible exact HB.out))) hb); clear HO458; clear HB; have HO458 := n0_; have HO462 := n1_; have HB := n2_; clear n0_ n1_ n2_; (try clear hb); (try clear ho0)) | ((with_reducible refine gate_dst (N := 6) rfl ?_); refine box_event ?hg (N := 6) ?hd (cs := #[.int .i64 0, .slice none 0 0]) (t := 28) ?hr ?_; (case hd => rfl); (case hg => rfl); (case hr => (go_simp; done)); intro gb464 hg w13 hbox hb; have n0_ := Aside0.mk (Kd.S_below (by (with_reducible repeat (apply Kd.S_drew)); exact HO458.out) hb); have n1_ := Aside0.mk (Kd.R_below (by (with_reducible repeat (apply Kd.R_drew)); exact HO462.out) hb); have n2_ := Aside0.mk (below_step (by repeat ((with_reducible exact HB.out))) hb); have n3_ := Aside0.mk (hbox); have n4_ := Aside0.mk ((by rw [hg]; exact (below_size (by repeat ((with_reducible exact HB.out)))) : w.heap.size ≤ gb464)); have n5_ := Aside0.mk ((by rw [hg]; exact (below_size (by repeat ((with_reducible exact HB.out)))) : w.heap.size ≤ gb464)); clear HO458; clear HO462; clear HB; have HO458 := n0_; have HO462 := n1_; have HB := n2_; have BK464 := n3_; have GW464 := n4_; have GE464 := n5_; clear n0_ n1_ n2_ n3_ n4_ n5_; clear hb hbox hg; have hcz14_0 : w13.cell? ⟨gb464, 0, none⟩ = some (.int .i64 0) := (blk_cell BK464.out 0).trans rfl; have hcz14_1 : w13.cell? ⟨gb464, 1, none⟩ = some (.slice none 0 0) := (blk_cell BK464.out 1).trans rfl; have hfz14_0 := blk_frozen BK464.out 0; have hfz14_1 := blk_frozen BK464.out 1; obtain ⟨Ao15, co15, eo15⟩ := Kd.R_slice HO462.out; subst eo15) | ((with_reducible refine gate_callee (f := 23) rfl ?_); refine goesL_ (some 29) rfl rfl Try.func23 (by kernel_rfl) rfl #[.slice A1 l1.length c1] rfl (by (try simp only [List.map_toArray, List.map_cons, List.map_nil]); rfl) ?_; (with_reducible refine (laws_toIntSS.calls k _ _ l1 t465 _ ?side1 ?side2 A7.out).mono ?_); (case side1 => exact Kd.C_below HR1.out (by repeat ((with_reducible first | exact HB.out | refine below_set ?_ GE464.out)))); (case side2 => exact HC1.out); rintro e w16 ⟨v466, rfl, ho0, hb⟩; refine ⟨_, rfl, ?_⟩; obtain ⟨nP990002_, hP990002_⟩ := size_letter hb; have n0_ := Aside0.mk (Kd.S_oldP (Kd.S_told (Kd.S_old (by (with_reducible repeat (apply Kd.S_drew)); exact (Kd.S_mono (Kd.S_far (p := ⟨gb464, 1, none⟩) (Kd.S_far (p := ⟨gb464, 0, none⟩) (Kd.S_types HO458.out BK464.out (by decide)) (fun _ hk => hk.2) (.int .i64 t459)) (fun _ hk => hk.2) (.slice Ao15 t460.length co15)) (fun _ h_ => h_.1))) hb) (Kd.S_base ho0)) hP990002_); have n1_ := Aside0.mk (Kd.R_below (by (with_reducible repeat (apply Kd.R_drew)); exact (Kd.R_mono (Kd.R_far (p := ⟨gb464, 1, none⟩) (Kd.R_far (p := ⟨gb464, 0, none⟩) (Kd.R_types HO462.out BK464.out (by decide)) (fun _ hk => hk.2) (.int .i64 t459)) (fun _ hk => hk.2) (.slice Ao15 t460.length co15)) (fun _ h_ => h_.1))) hb); have n2_ := Aside0.mk (Kd.S_lower (Kd.S_newP (Kd.S_new' (Kd.S_new' ho0 (Kd.S_lt (by (with_reducible repeat (apply Kd.S_drew)); exact (Kd.S_mono (Kd.S_far (p := ⟨gb464, 1, none⟩) (Kd.S_far (p := ⟨gb464, 0, none⟩) (Kd.S_types HO458.out BK464.out (by decide)) (fun _ hk => hk.2) (.int .i64 t459)) (fun _ hk => hk.2) (.slice Ao15 t460.length co15)) (fun _ h_ => h_.1))))) (Kd.R_lt (by (with_reducible repeat (apply Kd.R_drew)); exact (Kd.R_mono (Kd.R_far (p := ⟨gb464, 1, none⟩) (Kd.R_far (p := ⟨gb464, 0, none⟩) (Kd.R_types HO462.out BK464.out (by decide)) (fun _ hk => hk.2) (.int .i64 t459)) (fun _ hk => hk.2) (.slice Ao15 t460.length co15)) (fun _ h_ => h_.1))))) hP990002_) (below_size (by repeat ((with_reducible first | exact HB.out | refine below_set ?_ GE464.out))))); have n3_ := Aside0.mk (blk_below (g := gb464) (o := .cells #[.int .i64 t459, .slice Ao15 t460.length co15] 28 (0, 0)) (by (with_reducible repeat (refine blk_drew ?_)); refine blk_put (cs := #[.int .i64 t459, .slice none 0 0]) ?_ 1 _ rfl; (with_reducible repeat (refine blk_drew ?_)); refine blk_put (cs := #[.int .i64 0, .slice none 0 0]) ?_ 0 _ rfl; (with_reducible repeat (refine blk_drew ?_)); exact BK464.out) hb); have n4_ := Aside0.mk (below_step (by repeat ((with_reducible first | exact HB.out | refine below_set ?_ GE464.out))) hb); clear HO458; clear HO462; clear BK464; clear HB; have HO458 := n0_; have HO462 := n1_; have HO467 := n2_; have BK464 := n3_; have HB := n4_; clear n0_ n1_ n2_ n3_ n4_; (try clear hb); (try clear ho0); obtain ⟨Ao17, co17, eo17⟩ := Kd.S_slice HO467.out; subst eo17) | ((with_reducible refine gate_callee (f := 24) rfl ?_); refine goesL_ (some 33) rfl rfl Try.func24 (by kernel_rfl) rfl #[.int .i64 a0, .slice Ao17 t465.length co17] rfl (by (try simp only [List.map_toArray, List.map_cons, List.map_nil]); rfl) ?_; (with_reducible refine (impl_EndsSpace.calls k a0 _ _ t465 t468 t469 t472 _ ?side1 ?side2 A8.out).mono ?_); (case side1 => repeat (exact (Kd.S_reads' HO467.out).2.2)); (case side2 => exact (Kd.S_reads' HO467.out).2.1); rintro e w18 ⟨v470, rfl, ho0, hb⟩; refine ⟨_, rfl, ?_⟩; have n0_ := Aside0.mk (Kd.S_elder' (by (with_reducible repeat (apply Kd.S_drew)); exact HO458.out) (Kd.R_base ho0) hb); have n1_ := Aside0.mk (Kd.R_elder' (by (with_reducible repeat (apply Kd.R_drew)); exact HO462.out) (Kd.R_base ho0) hb); have n2_ := Aside0.mk (Kd.S_elder' (by (with_reducible repeat (apply Kd.S_drew)); exact HO467.out) (Kd.R_base ho0) hb); have n3_ := Aside0.mk (Kd.R_lower (Kd.R_new' ho0 (Kd.R_lt (by (with_reducible repeat (apply Kd.R_drew)); exact HO462.out))) (below_size (by repeat ((with_reducible exact HB.out))))); have n4_ := Aside0.mk (blk_below (g := gb464) (o := .cells #[.int .i64 t459, .slice Ao15 t460.length co15] 28 (0, 0)) (by (with_reducible repeat (refine blk_drew ?_)); exact BK464.out) hb); have n5_ := Aside0.mk (below_step (by repeat ((with_reducible exact HB.out))) hb); clear HO458; clear HO462; clear HO467; clear BK464; clear HB; have HO458 := n0_; have HO462 := n1_; have HO467 := n2_; have HO471 := n3_; have BK464 := n4_; have HB := n5_; clear n0_ n1_ n2_ n3_ n4_ n5_; (try clear hb); (try clear ho0)) | ((with_reducible refine gate_dst (N := 9) rfl ?_); refine box_event ?hg (N := 9) ?hd (cs := #[.int .i64 0, .slice none 0 0]) (t := 28) ?hr ?_; (case hd => rfl); (case hg => rfl); (case hr => (go_simp; done)); intro gb473 hg w19 hbox hb; have n0_ := Aside0.mk (Kd.S_below (by (with_reducible repeat (apply Kd.S_drew)); exact HO458.out) hb); have n1_ := Aside0.mk (Kd.R_below (by (with_reducible repeat (apply Kd.R_drew)); exact HO462.out) hb); have n2_ := Aside0.mk (Kd.S_below (by (with_reducible repeat (apply Kd.S_drew)); exact HO467.out) hb); have n3_ := Aside0.mk (Kd.R_below (by (with_reducible repeat (apply Kd.R_drew)); exact HO471.out) hb); have n4_ := Aside0.mk (blk_below (g := gb464) (o := .cells #[.int .i64 t459, .slice Ao15 t460.length co15] 28 (0, 0)) (by (with_reducible repeat (refine blk_drew ?_)); exact BK464.out) hb); have n5_ := Aside0.mk (below_step (by repeat ((with_reducible exact HB.out))) hb); have n6_ := Aside0.mk (hbox); have n7_ := Aside0.mk ((by rw [hg]; exact (below_size (by repeat ((with_reducible exact HB.out)))) : w.heap.size ≤ gb473)); have n8_ := Aside0.mk ((by rw [hg]; exact (below_size (by repeat ((with_reducible exact HB.out)))) : w.heap.size ≤ gb473)); have n9_ := Aside0.mk ((by rw [hg]; exact Nat.ne_of_lt (blk_lt (g := gb464) (o := .cells #[.int .i64 t459, .slice Ao15 t460.length co15] 28 (0, 0)) (by (with_reducible repeat (refine blk_drew ?_)); exact BK464.out)) : gb464 ≠ gb473)); have n10_ := Aside0.mk ((by rw [hg]; exact Nat.ne_of_gt (blk_lt (g := gb464) (o := .cells #[.int .i64 t459, .slice Ao15 t460.length co15] 28 (0, 0)) (by (with_reducible repeat (refine blk_drew ?_)); exact BK464.out)) : gb473 ≠ gb464)); clear HO458; clear HO462; clear HO467; clear HO471; clear BK464; clear HB; have HO458 := n0_; have HO462 := n1_; have HO467 := n2_; have HO471 := n3_; have BK464 := n4_; have HB := n5_; have BK473 := n6_; have GW473 := n7_; have GE473 := n8_; have NB464_473 := n9_; have NB473_464 := n10_; clear n0_ n1_ n2_ n3_ n4_ n5_ n6_ n7_ n8_ n9_ n10_; clear hb hbox hg; have hnb20 := NB473_464.out; have hnc20 := NB464_473.out; have hcz21_0 : w19.cell? ⟨gb473, 0, none⟩ = some (.int .i64 0) := (blk_cell BK473.out 0).trans rfl; have hcz21_1 : w19.cell? ⟨gb473, 1, none⟩ = some (.slice none 0 0) := (blk_cell BK473.out 1).trans rfl; have hfz21_0 := blk_frozen BK473.out 0; have hfz21_1 := blk_frozen BK473.out 1; obtain ⟨Ao22, co22, eo22⟩ := Kd.R_slice HO471.out; subst eo22))
  skip
  go_cut [44] (fun v44 wc => ∃ (kq : Nat) (x44_8 : Bool), v44 = .bool x44_8 ∧ Aside0 (laws_FnExactEndsSpace.j0 kq a0 l1 t463 t465 t472 x44_8 t459 t460 t468 t469 = some r) ∧ Aside0 (kq ≤ k) ∧ Aside0 (Kd.S (Kd.slice 3 (Kd.int .i64)) 22 wc w.heap.size (fun k_ => some k_ ≠ ((.slice Ao15 t460.length co15) : Value).ownBlock ∧ some k_ ≠ ((.slice Ao22 t469.length co22) : Value).ownBlock ∧ k_ ≠ (if k_ < nP990002_ then k_ else k_ + 1)) (.slice Ao17 t465.length co17) t465) ∧ Aside0 (Kd.R (Kd.int .i64) 3 wc w.heap.size (fun k_ => some k_ ≠ ((.slice Ao22 t469.length co22) : Value).ownBlock) (.slice Ao15 t460.length co15) t460) ∧ Aside0 (Kd.R (Kd.int .i64) 3 wc w.heap.size (fun k_ => some k_ ≠ ((.slice Ao15 t460.length co15) : Value).ownBlock) (.slice Ao22 t469.length co22) t469) ∧ Aside0 (wc.heap[gb464]? = some (.cells #[.int .i64 t459, (.slice Ao15 t460.length co15)] 28 (0, 0))) ∧ Aside0 (wc.heap[gb473]? = some (.cells #[.int .i64 t468, (.slice Ao22 t469.length co22)] 28 (0, 0))) ∧ Aside0 (Below w.heap.size w wc))
  case first =>
   have H := HC9.out
   clear HC9
   replace H := Option.bind_eq_some_iff.mp H
   obtain ⟨t474, A230, H⟩ := H
   replace H : (if t474 = true then (laws_FnExactEndsSpace.j0 k a0 l1 t463 t465 t472 (t472 != t463) t459 t460 t468 t469) else (laws_FnExactEndsSpace.j0 k a0 l1 t463 t465 t472 true t459 t460 t468 t469)) = some r := H
   have A23 := Aside0.mk A230
   clear A230
   by_cases c24 : t474 = true
   ·subst c24
    have H1 : (laws_FnExactEndsSpace.j0 k a0 l1 t463 t465 t472 (t472 != t463) t459 t460 t468 t469) = some r := by rw [if_pos rfl] at H; exact H
    clear H
    have H := H1
    clear H1
    have H' := Aside0.mk H
    clear H
    have hnb25 := NB473_464.out
    have hnc25 := NB464_473.out
    have hcz26_0 : w19.cell? ⟨gb473, 0, none⟩ = some (.int .i64 0) := (blk_cell BK473.out 0).trans rfl
    have hcz26_1 : w19.cell? ⟨gb473, 1, none⟩ = some (.slice none 0 0) := (blk_cell BK473.out 1).trans rfl
    have hfz26_0 := blk_frozen BK473.out 0
    have hfz26_1 := blk_frozen BK473.out 1
    have hcz27_0 : w19.cell? ⟨gb464, 0, none⟩ = some (.int .i64 t459) := (blk_cell BK464.out 0).trans rfl
    have hcz27_1 : w19.cell? ⟨gb464, 1, none⟩ = some (.slice Ao15 t460.length co15) := (blk_cell BK464.out 1).trans rfl
    have hfz27_0 := blk_frozen BK464.out 0
    have hfz27_1 := blk_frozen BK464.out 1
    go_wp2_with (((with_reducible refine gate_callee (f := 15) rfl ?_); refine goesL_ (some 38) rfl rfl Try.func15 (by kernel_rfl) rfl #[.agg #[.int .i64 t468, .slice Ao22 t469.length co22], .agg #[.int .i64 t459, .slice Ao15 t460.length co15]] rfl (by (try simp only [List.map_toArray, List.map_cons, List.map_nil]); rfl) ?_; (with_reducible refine (laws_eqSpace.calls k t468 _ _ t469 t459 _ _ t460 true _ ?side1 ?side2 ?side3 ?side4 A23.out).mono ?_); (case side1 => refine (Kd.R_reads' (e := 3) (base := w.heap.size) (ok := fun k_ => (True ∧ some k_ ≠ (.slice Ao15 t460.length co15 : Value).ownBlock)) (n := t469.length) (c := co22) ?_).2.2; exact (by (with_reducible repeat (apply Kd.R_drew)); exact (Kd.R_mono (Kd.R_far (p := ⟨gb473, 1, none⟩) (Kd.R_far (p := ⟨gb473, 0, none⟩) (Kd.R_types HO471.out BK473.out (by decide)) (fun _ hk => hk.2) (.int .i64 t468)) (fun _ hk => hk.2) (.slice Ao22 t469.length co22)) (fun _ h_ => h_.1)))); (case side2 => exact (Kd.R_reads' HO471.out).2.1); (case side3 => refine (Kd.R_reads' (e := 3) (base := w.heap.size) (ok := fun k_ => (True ∧ some k_ ≠ (.slice Ao22 t469.length co22 : Value).ownBlock)) (n := t460.length) (c := co15) ?_).2.2; exact (by (with_reducible repeat (apply Kd.R_drew)); exact (Kd.R_mono (Kd.R_far (p := ⟨gb473, 1, none⟩) (Kd.R_far (p := ⟨gb473, 0, none⟩) (Kd.R_types HO462.out BK473.out (by decide)) (fun _ hk => hk.2) (.int .i64 t468)) (fun _ hk => hk.2) (.slice Ao22 t469.length co22)) (fun _ h_ => h_.1)))); (case side4 => exact (Kd.R_reads' HO462.out).2.1); rintro e w28 ⟨rfl, hb⟩; refine ⟨_, rfl, ?_⟩; have n0_ := Aside0.mk (Kd.S_below (by (with_reducible repeat (apply Kd.S_drew)); exact (Kd.S_mono (Kd.S_far (p := ⟨gb473, 1, none⟩) (Kd.S_far (p := ⟨gb473, 0, none⟩) (Kd.S_types HO458.out BK473.out (by decide)) (fun _ hk => hk.2) (.int .i64 t468)) (fun _ hk => hk.2) (.slice Ao22 t469.length co22)) (fun _ h_ => h_.1))) hb); have n1_ := Aside0.mk (Kd.R_below (by (with_reducible repeat (apply Kd.R_drew)); exact (Kd.R_mono (Kd.R_far (p := ⟨gb473, 1, none⟩) (Kd.R_far (p := ⟨gb473, 0, none⟩) (Kd.R_types HO462.out BK473.out (by decide)) (fun _ hk => hk.2) (.int .i64 t468)) (fun _ hk => hk.2) (.slice Ao22 t469.length co22)) (fun _ h_ => h_.1))) hb); have n2_ := Aside0.mk (Kd.S_below (by (with_reducible repeat (apply Kd.S_drew)); exact (Kd.S_mono (Kd.S_far (p := ⟨gb473, 1, none⟩) (Kd.S_far (p := ⟨gb473, 0, none⟩) (Kd.S_types HO467.out BK473.out (by decide)) (fun _ hk => hk.2) (.int .i64 t468)) (fun _ hk => hk.2) (.slice Ao22 t469.length co22)) (fun _ h_ => h_.1))) hb); have n3_ := Aside0.mk (Kd.R_below (by (with_reducible repeat (apply Kd.R_drew)); exact (Kd.R_mono (Kd.R_far (p := ⟨gb473, 1, none⟩) (Kd.R_far (p := ⟨gb473, 0, none⟩) (Kd.R_types HO471.out BK473.out (by decide)) (fun _ hk => hk.2) (.int .i64 t468)) (fun _ hk => hk.2) (.slice Ao22 t469.length co22)) (fun _ h_ => h_.1))) hb); have n4_ := Aside0.mk (blk_below (g := gb464) (o := .cells #[.int .i64 t459, .slice Ao15 t460.length co15] 28 (0, 0)) (by (with_reducible repeat (refine blk_drew ?_)); refine blk_far ?_ NB464_473.out _; (with_reducible repeat (refine blk_drew ?_)); refine blk_far ?_ NB464_473.out _; (with_reducible repeat (refine blk_drew ?_)); exact BK464.out) hb); have n5_ := Aside0.mk (blk_below (g := gb473) (o := .cells #[.int .i64 t468, .slice Ao22 t469.length co22] 28 (0, 0)) (by (with_reducible repeat (refine blk_drew ?_)); refine blk_put (cs := #[.int .i64 t468, .slice none 0 0]) ?_ 1 _ rfl; (with_reducible repeat (refine blk_drew ?_)); refine blk_put (cs := #[.int .i64 0, .slice none 0 0]) ?_ 0 _ rfl; (with_reducible repeat (refine blk_drew ?_)); exact BK473.out) hb); have n6_ := Aside0.mk (below_step (by repeat ((with_reducible first | exact HB.out | refine below_set ?_ GE473.out))) hb); clear HO458; clear HO462; clear HO467; clear HO471; clear BK464; clear BK473; clear HB; have HO458 := n0_; have HO462 := n1_; have HO467 := n2_; have HO471 := n3_; have BK464 := n4_; have BK473 := n5_; have HB := n6_; clear n0_ n1_ n2_ n3_ n4_ n5_ n6_; (try clear hb); skip))
    go_meet
    case rel => exact ⟨_, ((t472 != t463)), (by rfl), H', ⟨by omega⟩, ⟨by (with_reducible repeat (apply Kd.S_drew)); exact Kd.S_mono HO467.out (fun _ hk => ⟨hk.1.1.2, ⟨hk.2, hk.1.2⟩⟩)⟩, ⟨by (with_reducible repeat (apply Kd.R_drew)); exact Kd.R_mono HO462.out (fun _ hk => hk.2)⟩, ⟨by (with_reducible repeat (apply Kd.R_drew)); exact Kd.R_mono HO471.out (fun _ hk => hk.2)⟩, ⟨by (with_reducible repeat (refine blk_drew ?_)); exact BK464.out⟩, ⟨by (with_reducible repeat (refine blk_drew ?_)); exact BK473.out⟩, ⟨by repeat ((with_reducible exact HB.out))⟩⟩
   ·replace c24 := Bool.eq_false_iff.mpr c24
    subst c24
    have H1 : (laws_FnExactEndsSpace.j0 k a0 l1 t463 t465 t472 true t459 t460 t468 t469) = some r := by rw [if_neg (show ¬ (false = true) by decide)] at H; exact H
    clear H
    have H := H1
    clear H1
    have H' := Aside0.mk H
    clear H
    have hnb29 := NB473_464.out
    have hnc29 := NB464_473.out
    have hcz30_0 : w19.cell? ⟨gb473, 0, none⟩ = some (.int .i64 0) := (blk_cell BK473.out 0).trans rfl
    have hcz30_1 : w19.cell? ⟨gb473, 1, none⟩ = some (.slice none 0 0) := (blk_cell BK473.out 1).trans rfl
    have hfz30_0 := blk_frozen BK473.out 0
    have hfz30_1 := blk_frozen BK473.out 1
    have hcz31_0 : w19.cell? ⟨gb464, 0, none⟩ = some (.int .i64 t459) := (blk_cell BK464.out 0).trans rfl
    have hcz31_1 : w19.cell? ⟨gb464, 1, none⟩ = some (.slice Ao15 t460.length co15) := (blk_cell BK464.out 1).trans rfl
    have hfz31_0 := blk_frozen BK464.out 0
    have hfz31_1 := blk_frozen BK464.out 1
    go_wp2_with (((with_reducible refine gate_callee (f := 15) rfl ?_); refine goesL_ (some 38) rfl rfl Try.func15 (by kernel_rfl) rfl #[.agg #[.int .i64 t468, .slice Ao22 t469.length co22], .agg #[.int .i64 t459, .slice Ao15 t460.length co15]] rfl (by (try simp only [List.map_toArray, List.map_cons, List.map_nil]); rfl) ?_; (with_reducible refine (laws_eqSpace.calls k t468 _ _ t469 t459 _ _ t460 false _ ?side1 ?side2 ?side3 ?side4 A23.out).mono ?_); (case side1 => refine (Kd.R_reads' (e := 3) (base := w.heap.size) (ok := fun k_ => (True ∧ some k_ ≠ (.slice Ao15 t460.length co15 : Value).ownBlock)) (n := t469.length) (c := co22) ?_).2.2; exact (by (with_reducible repeat (apply Kd.R_drew)); exact (Kd.R_mono (Kd.R_far (p := ⟨gb473, 1, none⟩) (Kd.R_far (p := ⟨gb473, 0, none⟩) (Kd.R_types HO471.out BK473.out (by decide)) (fun _ hk => hk.2) (.int .i64 t468)) (fun _ hk => hk.2) (.slice Ao22 t469.length co22)) (fun _ h_ => h_.1)))); (case side2 => exact (Kd.R_reads' HO471.out).2.1); (case side3 => refine (Kd.R_reads' (e := 3) (base := w.heap.size) (ok := fun k_ => (True ∧ some k_ ≠ (.slice Ao22 t469.length co22 : Value).ownBlock)) (n := t460.length) (c := co15) ?_).2.2; exact (by (with_reducible repeat (apply Kd.R_drew)); exact (Kd.R_mono (Kd.R_far (p := ⟨gb473, 1, none⟩) (Kd.R_far (p := ⟨gb473, 0, none⟩) (Kd.R_types HO462.out BK473.out (by decide)) (fun _ hk => hk.2) (.int .i64 t468)) (fun _ hk => hk.2) (.slice Ao22 t469.length co22)) (fun _ h_ => h_.1)))); (case side4 => exact (Kd.R_reads' HO462.out).2.1); rintro e w32 ⟨rfl, hb⟩; refine ⟨_, rfl, ?_⟩; have n0_ := Aside0.mk (Kd.S_below (by (with_reducible repeat (apply Kd.S_drew)); exact (Kd.S_mono (Kd.S_far (p := ⟨gb473, 1, none⟩) (Kd.S_far (p := ⟨gb473, 0, none⟩) (Kd.S_types HO458.out BK473.out (by decide)) (fun _ hk => hk.2) (.int .i64 t468)) (fun _ hk => hk.2) (.slice Ao22 t469.length co22)) (fun _ h_ => h_.1))) hb); have n1_ := Aside0.mk (Kd.R_below (by (with_reducible repeat (apply Kd.R_drew)); exact (Kd.R_mono (Kd.R_far (p := ⟨gb473, 1, none⟩) (Kd.R_far (p := ⟨gb473, 0, none⟩) (Kd.R_types HO462.out BK473.out (by decide)) (fun _ hk => hk.2) (.int .i64 t468)) (fun _ hk => hk.2) (.slice Ao22 t469.length co22)) (fun _ h_ => h_.1))) hb); have n2_ := Aside0.mk (Kd.S_below (by (with_reducible repeat (apply Kd.S_drew)); exact (Kd.S_mono (Kd.S_far (p := ⟨gb473, 1, none⟩) (Kd.S_far (p := ⟨gb473, 0, none⟩) (Kd.S_types HO467.out BK473.out (by decide)) (fun _ hk => hk.2) (.int .i64 t468)) (fun _ hk => hk.2) (.slice Ao22 t469.length co22)) (fun _ h_ => h_.1))) hb); have n3_ := Aside0.mk (Kd.R_below (by (with_reducible repeat (apply Kd.R_drew)); exact (Kd.R_mono (Kd.R_far (p := ⟨gb473, 1, none⟩) (Kd.R_far (p := ⟨gb473, 0, none⟩) (Kd.R_types HO471.out BK473.out (by decide)) (fun _ hk => hk.2) (.int .i64 t468)) (fun _ hk => hk.2) (.slice Ao22 t469.length co22)) (fun _ h_ => h_.1))) hb); have n4_ := Aside0.mk (blk_below (g := gb464) (o := .cells #[.int .i64 t459, .slice Ao15 t460.length co15] 28 (0, 0)) (by (with_reducible repeat (refine blk_drew ?_)); refine blk_far ?_ NB464_473.out _; (with_reducible repeat (refine blk_drew ?_)); refine blk_far ?_ NB464_473.out _; (with_reducible repeat (refine blk_drew ?_)); exact BK464.out) hb); have n5_ := Aside0.mk (blk_below (g := gb473) (o := .cells #[.int .i64 t468, .slice Ao22 t469.length co22] 28 (0, 0)) (by (with_reducible repeat (refine blk_drew ?_)); refine blk_put (cs := #[.int .i64 t468, .slice none 0 0]) ?_ 1 _ rfl; (with_reducible repeat (refine blk_drew ?_)); refine blk_put (cs := #[.int .i64 0, .slice none 0 0]) ?_ 0 _ rfl; (with_reducible repeat (refine blk_drew ?_)); exact BK473.out) hb); have n6_ := Aside0.mk (below_step (by repeat ((with_reducible first | exact HB.out | refine below_set ?_ GE473.out))) hb); clear HO458; clear HO462; clear HO467; clear HO471; clear BK464; clear BK473; clear HB; have HO458 := n0_; have HO462 := n1_; have HO467 := n2_; have HO471 := n3_; have BK464 := n4_; have BK473 := n5_; have HB := n6_; clear n0_ n1_ n2_ n3_ n4_ n5_ n6_; (try clear hb); skip))
    go_meet
    case rel => exact ⟨_, (true), (by rfl), H', ⟨by omega⟩, ⟨by (with_reducible repeat (apply Kd.S_drew)); exact Kd.S_mono HO467.out (fun _ hk => ⟨hk.1.1.2, ⟨hk.2, hk.1.2⟩⟩)⟩, ⟨by (with_reducible repeat (apply Kd.R_drew)); exact Kd.R_mono HO462.out (fun _ hk => hk.2)⟩, ⟨by (with_reducible repeat (apply Kd.R_drew)); exact Kd.R_mono HO471.out (fun _ hk => hk.2)⟩, ⟨by (with_reducible repeat (refine blk_drew ?_)); exact BK464.out⟩, ⟨by (with_reducible repeat (refine blk_drew ?_)); exact BK473.out⟩, ⟨by repeat ((with_reducible exact HB.out))⟩⟩
  case rest =>
   clear HC9
   try clear c1
   try clear c2
   try clear p2
   try clear c4
   try clear c4b0
   try clear c6
   try clear c15
   try clear c20
   try clear c21
   try clear c22
   try clear c23
   try clear c24
   try clear c25
   try clear c29
   try clear hcz14_0
   try clear hcz14_1
   try clear hcz21_0
   try clear hcz21_1
   try clear hcz26_0
   try clear hcz26_1
   try clear hcz27_0
   try clear hcz27_1
   try clear hcz30_0
   try clear hcz30_1
   try clear hcz31_0
   try clear hcz31_1
   try clear hfz14_0
   try clear hfz14_1
   try clear hfz21_0
   try clear hfz21_1
   try clear hfz26_0
   try clear hfz26_1
   try clear hfz27_0
   try clear hfz27_1
   try clear hfz30_0
   try clear hfz30_1
   try clear hfz31_0
   try clear hfz31_1
   obtain ⟨kq, x44_8, rfl, HA, HJ8, HO_8, HO_465001, HO_474001, BK464, BK473, HB⟩ := hcut
   cases kq with
   | zero => exact absurd HA.out (by simp [laws_FnExactEndsSpace.j0])
   | succ kj8 =>
    have H := HA.out
    clear HA
    simp only [laws_FnExactEndsSpace.j0] at H
    by_cases c33 : x44_8 = true
    ·subst c33
     have H1 : (some false) = some r := by rw [if_pos rfl] at H; exact H
     clear H
     have H := H1
     clear H1
     obtain rfl := Option.some.inj H
     go_wp2
     go_ret
     exact ⟨by rfl, by repeat ((with_reducible exact HB.out))⟩
    ·replace c33 := Bool.eq_false_iff.mpr c33
     subst c33
     have H1 : ((laws_toIntSS.f kj8 l1).bind fun t475 => ((laws_eqIntSS.f kj8 t465 t475).bind fun t478 => (if t478 = true then ((laws_markIntSS.f kj8 t465 1).bind fun bt479 => (if bt479.1 < 0 then (laws_FnExactEndsSpace.j1 kj8 a0 l1 t463 true t459 t460 t468 t469) else ((laws_eqSpace.f kj8 t468 t469 t459 t460).bind fun t481 => (if t481 = true then (laws_FnExactEndsSpace.j1 kj8 a0 l1 t463 (t472 != t463) t459 t460 t468 t469) else (laws_FnExactEndsSpace.j1 kj8 a0 l1 t463 true t459 t460 t468 t469))))) else (some false)))) = some r := by rw [if_neg (show ¬ (false = true) by decide)] at H; exact H
     clear H
     have H := H1
     clear H1
     replace H := Option.bind_eq_some_iff.mp H
     obtain ⟨t475, A340, H⟩ := H
     replace H : ((laws_eqIntSS.f kj8 t465 t475).bind fun t478 => (if t478 = true then ((laws_markIntSS.f kj8 t465 1).bind fun bt479 => (if bt479.1 < 0 then (laws_FnExactEndsSpace.j1 kj8 a0 l1 t463 true t459 t460 t468 t469) else ((laws_eqSpace.f kj8 t468 t469 t459 t460).bind fun t481 => (if t481 = true then (laws_FnExactEndsSpace.j1 kj8 a0 l1 t463 (t472 != t463) t459 t460 t468 t469) else (laws_FnExactEndsSpace.j1 kj8 a0 l1 t463 true t459 t460 t468 t469))))) else (some false))) = some r := H
     have A34 := Aside0.mk A340
     clear A340
     replace H := Option.bind_eq_some_iff.mp H
     obtain ⟨t478, A350, H⟩ := H
     replace H : (if t478 = true then ((laws_markIntSS.f kj8 t465 1).bind fun bt479 => (if bt479.1 < 0 then (laws_FnExactEndsSpace.j1 kj8 a0 l1 t463 true t459 t460 t468 t469) else ((laws_eqSpace.f kj8 t468 t469 t459 t460).bind fun t481 => (if t481 = true then (laws_FnExactEndsSpace.j1 kj8 a0 l1 t463 (t472 != t463) t459 t460 t468 t469) else (laws_FnExactEndsSpace.j1 kj8 a0 l1 t463 true t459 t460 t468 t469))))) else (some false)) = some r := H
     have A35 := Aside0.mk A350
     clear A350
     by_cases c36 : t478 = true
     ·subst c36
      have H1 : ((laws_markIntSS.f kj8 t465 1).bind fun bt479 => (if bt479.1 < 0 then (laws_FnExactEndsSpace.j1 kj8 a0 l1 t463 true t459 t460 t468 t469) else ((laws_eqSpace.f kj8 t468 t469 t459 t460).bind fun t481 => (if t481 = true then (laws_FnExactEndsSpace.j1 kj8 a0 l1 t463 (t472 != t463) t459 t460 t468 t469) else (laws_FnExactEndsSpace.j1 kj8 a0 l1 t463 true t459 t460 t468 t469))))) = some r := by rw [if_pos rfl] at H; exact H
      clear H
      have H := H1
      clear H1
      replace H := Option.bind_eq_some_iff.mp H
      obtain ⟨⟨t479, t480⟩, A370, H⟩ := H
      replace H : (if t479 < 0 then (laws_FnExactEndsSpace.j1 kj8 a0 l1 t463 true t459 t460 t468 t469) else ((laws_eqSpace.f kj8 t468 t469 t459 t460).bind fun t481 => (if t481 = true then (laws_FnExactEndsSpace.j1 kj8 a0 l1 t463 (t472 != t463) t459 t460 t468 t469) else (laws_FnExactEndsSpace.j1 kj8 a0 l1 t463 true t459 t460 t468 t469)))) = some r := H
      have A37 := Aside0.mk A370
      clear A370
      have HC38 := Aside0.mk H
      clear H
      go_upto_region 14 with (first | ((with_reducible refine gate_callee (f := 23) rfl ?_); refine goesL_ (some 47) rfl rfl Try.func23 (by kernel_rfl) rfl #[.slice A1 l1.length c1] rfl (by (try simp only [List.map_toArray, List.map_cons, List.map_nil]); rfl) ?_; (with_reducible refine (laws_toIntSS.calls kj8 _ _ l1 t475 _ ?side1 ?side2 A34.out).mono ?_); (case side1 => repeat (exact (Kd.C_below HR1.out HB.out))); (case side2 => exact HC1.out); rintro e w39 ⟨v476, rfl, ho0, hb⟩; refine ⟨_, rfl, ?_⟩; obtain ⟨nP990004_, hP990004_⟩ := size_letter hb; have n0_ := Aside0.mk (Kd.S_oldP (Kd.S_told (Kd.S_old (by (with_reducible repeat (apply Kd.S_drew)); exact HO_8.out) hb) (Kd.S_base ho0)) hP990004_); have n1_ := Aside0.mk (Kd.R_below (by (with_reducible repeat (apply Kd.R_drew)); exact HO_465001.out) hb); have n2_ := Aside0.mk (Kd.R_below (by (with_reducible repeat (apply Kd.R_drew)); exact HO_474001.out) hb); have n3_ := Aside0.mk (Kd.S_lower (Kd.S_newP (Kd.S_new' (Kd.S_new' (Kd.S_new' ho0 (Kd.S_lt (by (with_reducible repeat (apply Kd.S_drew)); exact HO_8.out))) (Kd.R_lt (by (with_reducible repeat (apply Kd.R_drew)); exact HO_465001.out))) (Kd.R_lt (by (with_reducible repeat (apply Kd.R_drew)); exact HO_474001.out))) hP990004_) (below_size (by repeat ((with_reducible exact HB.out))))); have n4_ := Aside0.mk (blk_below (g := gb464) (o := .cells #[.int .i64 t459, .slice Ao15 t460.length co15] 28 (0, 0)) (by (with_reducible repeat (refine blk_drew ?_)); exact BK464.out) hb); have n5_ := Aside0.mk (blk_below (g := gb473) (o := .cells #[.int .i64 t468, .slice Ao22 t469.length co22] 28 (0, 0)) (by (with_reducible repeat (refine blk_drew ?_)); exact BK473.out) hb); have n6_ := Aside0.mk (below_step (by repeat ((with_reducible exact HB.out))) hb); clear HO_8; clear HO_465001; clear HO_474001; clear BK464; clear BK473; clear HB; have HO_8 := n0_; have HO_465001 := n1_; have HO_474001 := n2_; have HO477 := n3_; have BK464 := n4_; have BK473 := n5_; have HB := n6_; clear n0_ n1_ n2_ n3_ n4_ n5_ n6_; (try clear hb); (try clear ho0); obtain ⟨Ao40, co40, eo40⟩ := Kd.S_slice HO477.out; subst eo40) | ((with_reducible refine gate_callee (f := 25) rfl ?_); refine goesL_ (some 48) rfl rfl Try.func25 (by kernel_rfl) rfl #[.slice Ao17 t465.length co17, .slice Ao40 t475.length co40] rfl (by (try simp only [List.map_toArray, List.map_cons, List.map_nil]); rfl) ?_; (with_reducible refine (laws_eqIntSS.calls kj8 _ _ t465 _ _ t475 true _ ?side1 ?side2 ?side3 ?side4 A35.out).mono ?_); (case side1 => repeat (exact (Kd.S_reads' HO_8.out).2.2)); (case side2 => exact (Kd.S_reads' HO_8.out).2.1); (case side3 => repeat (exact (Kd.S_reads' HO477.out).2.2)); (case side4 => exact (Kd.S_reads' HO477.out).2.1); rintro e w' ⟨rfl, ⟨nd, rfl⟩⟩; refine ⟨_, rfl, ?_⟩) | ((with_reducible refine gate_callee (f := 26) rfl ?_); refine goesL_ (some 52) rfl rfl Try.func26 (by kernel_rfl) rfl #[.slice Ao17 t465.length co17, .int .i64 1] rfl (by (try simp only [List.map_toArray, List.map_cons, List.map_nil]); rfl) ?_; (with_reducible refine (laws_markIntSS.calls kj8 (fun k_ => ((((((some k_ ≠ (.slice Ao15 t460.length co15 : Value).ownBlock ∧ (some k_ ≠ (.slice Ao22 t469.length co22 : Value).ownBlock ∧ k_ ≠ (if k_ < nP990002_ then k_ else k_ + 1))) ∧ some k_ ≠ (.slice Ao40 t475.length co40 : Value).ownBlock) ∧ k_ ≠ (max k_ nP990004_)) ∧ k_ ≠ gb464) ∧ k_ ≠ gb473)) ∧ w.heap.size ≤ k_) (.slice Ao17 t465.length co17) t465 1 t479 t480 w _ ?side1 ?side2 A37.out).mono ?_); (case side1 => repeat ((with_reducible first | exact HB.out | apply pw_below_drewN))); (case side2 => exact Kd.S_mono (Kd.S_bound ((Kd.S_types (Kd.S_types HO_8.out BK464.out (by decide)) BK473.out (by decide)))) (fun k_ hk_ => ⟨hk_.1, hk_.2.1⟩)); rintro e w41 ⟨rfl, hy0, hb, hkp⟩; refine ⟨_, rfl, ?_⟩; have n0_ := Aside0.mk (Kd.S_mono (ok' := fun k_ => (((some k_ ≠ (.slice Ao15 t460.length co15 : Value).ownBlock ∧ (some k_ ≠ (.slice Ao22 t469.length co22 : Value).ownBlock ∧ k_ ≠ (if k_ < nP990002_ then k_ else k_ + 1))) ∧ some k_ ≠ (.slice Ao40 t475.length co40 : Value).ownBlock) ∧ k_ ≠ (max k_ nP990004_))) hy0 (fun k_ hk => ⟨⟨⟨hk.1.1.1.1.1.1, ⟨hk.1.1.1.1.1.2.1, hk.1.1.1.1.1.2.2⟩⟩, hk.1.1.1.1.2⟩, hk.1.1.1.2⟩)); have n1_ := Aside0.mk (Kd.R_mono (ok' := fun k_ => some k_ ≠ (.slice Ao22 t469.length co22 : Value).ownBlock) (Kd.R_keptB ((Kd.R_mono (ok' := fun k_ => (some k_ ≠ (.slice Ao22 t469.length co22 : Value).ownBlock) ∧ ¬ (((((((some k_ ≠ (.slice Ao15 t460.length co15 : Value).ownBlock ∧ (some k_ ≠ (.slice Ao22 t469.length co22 : Value).ownBlock ∧ k_ ≠ (if k_ < nP990002_ then k_ else k_ + 1))) ∧ some k_ ≠ (.slice Ao40 t475.length co40 : Value).ownBlock) ∧ k_ ≠ (max k_ nP990004_)) ∧ k_ ≠ gb464) ∧ k_ ≠ gb473)) ∧ w.heap.size ≤ k_)) (Kd.R_tight2 rfl HO_465001.out) (fun k_ hk => ⟨hk.2, fun e_ => (e_.1.1.1.1.1.1) hk.1⟩))) hkp (fun k_ hk_ hs_ => (hk_.2) hs_)) (fun k_ hk_ => hk_.1.1)); have n2_ := Aside0.mk (Kd.R_mono (ok' := fun k_ => some k_ ≠ (.slice Ao15 t460.length co15 : Value).ownBlock) (Kd.R_keptB ((Kd.R_mono (ok' := fun k_ => (some k_ ≠ (.slice Ao15 t460.length co15 : Value).ownBlock) ∧ ¬ (((((((some k_ ≠ (.slice Ao15 t460.length co15 : Value).ownBlock ∧ (some k_ ≠ (.slice Ao22 t469.length co22 : Value).ownBlock ∧ k_ ≠ (if k_ < nP990002_ then k_ else k_ + 1))) ∧ some k_ ≠ (.slice Ao40 t475.length co40 : Value).ownBlock) ∧ k_ ≠ (max k_ nP990004_)) ∧ k_ ≠ gb464) ∧ k_ ≠ gb473)) ∧ w.heap.size ≤ k_)) (Kd.R_tight2 rfl HO_474001.out) (fun k_ hk => ⟨hk.2, fun e_ => (e_.1.1.1.1.1.2.1) hk.1⟩))) hkp (fun k_ hk_ hs_ => (hk_.2) hs_)) (fun k_ hk_ => hk_.1.1)); have n3_ := Aside0.mk (blk_kept (by (with_reducible repeat (refine blk_drew ?_)); exact BK464.out) hkp (fun hs_ => (fun e_ => (e_.1.1.2) rfl) hs_)); have n4_ := Aside0.mk (blk_kept (by (with_reducible repeat (refine blk_drew ?_)); exact BK473.out) hkp (fun hs_ => (fun e_ => (e_.1.2) rfl) hs_)); have n5_ := Aside0.mk (hb); clear HO_8; clear HO_465001; clear HO_474001; clear BK464; clear BK473; clear HB; clear HO477; have HO_8 := n0_; have HO_465001 := n1_; have HO_474001 := n2_; have BK464 := n3_; have BK473 := n4_; have HB := n5_; clear n0_ n1_ n2_ n3_ n4_ n5_; (try clear hb); (try clear hkp); (try clear hy0)))
      skip
      go_cut [65] (fun v65 wc => ∃ (kq : Nat) (x65_37 : Bool), v65 = .bool x65_37 ∧ Aside0 (laws_FnExactEndsSpace.j1 kq a0 l1 t463 x65_37 t459 t460 t468 t469 = some r) ∧ Aside0 (kq ≤ kj8) ∧ Aside0 (Kd.R (Kd.int .i64) 3 wc w.heap.size (fun k_ => some k_ ≠ ((.slice Ao22 t469.length co22) : Value).ownBlock) (.slice Ao15 t460.length co15) t460) ∧ Aside0 (Kd.R (Kd.int .i64) 3 wc w.heap.size (fun k_ => some k_ ≠ ((.slice Ao15 t460.length co15) : Value).ownBlock) (.slice Ao22 t469.length co22) t469) ∧ Aside0 (wc.heap[gb464]? = some (.cells #[.int .i64 t459, (.slice Ao15 t460.length co15)] 28 (0, 0))) ∧ Aside0 (wc.heap[gb473]? = some (.cells #[.int .i64 t468, (.slice Ao22 t469.length co22)] 28 (0, 0))) ∧ Aside0 (Below w.heap.size w wc))
      case first =>
       have H := HC38.out
       clear HC38
       by_cases c42 : t479 < 0
       ·rw [if_pos c42] at H
        have c42b0 : decide (t479 < 0) = true := decide_eq_true c42
        clear c42
        (skip)
        have H' := Aside0.mk H
        clear H
        go_wp2
        go_meet
        case rel => exact ⟨_, (true), (by rfl), H', ⟨by have := HJ8.out; omega⟩, ⟨by (with_reducible repeat (apply Kd.R_drew)); exact HO_465001.out⟩, ⟨by (with_reducible repeat (apply Kd.R_drew)); exact HO_474001.out⟩, ⟨by (with_reducible repeat (refine blk_drew ?_)); exact BK464.out⟩, ⟨by (with_reducible repeat (refine blk_drew ?_)); exact BK473.out⟩, ⟨by repeat ((with_reducible exact HB.out))⟩⟩
       ·rw [if_neg c42] at H
        have c42b0 : decide (t479 < 0) = false := decide_eq_false c42
        clear c42
        (skip)
        replace H := Option.bind_eq_some_iff.mp H
        obtain ⟨t481, A430, H⟩ := H
        replace H : (if t481 = true then (laws_FnExactEndsSpace.j1 kj8 a0 l1 t463 (t472 != t463) t459 t460 t468 t469) else (laws_FnExactEndsSpace.j1 kj8 a0 l1 t463 true t459 t460 t468 t469)) = some r := H
        have A43 := Aside0.mk A430
        clear A430
        by_cases c44 : t481 = true
        ·subst c44
         have H1 : (laws_FnExactEndsSpace.j1 kj8 a0 l1 t463 (t472 != t463) t459 t460 t468 t469) = some r := by rw [if_pos rfl] at H; exact H
         clear H
         have H := H1
         clear H1
         have H' := Aside0.mk H
         clear H
         have hnb45 := NB473_464.out
         have hnc45 := NB464_473.out
         have hcz46_0 : w41.cell? ⟨gb473, 0, none⟩ = some (.int .i64 t468) := (blk_cell BK473.out 0).trans rfl
         have hcz46_1 : w41.cell? ⟨gb473, 1, none⟩ = some (.slice Ao22 t469.length co22) := (blk_cell BK473.out 1).trans rfl
         have hfz46_0 := blk_frozen BK473.out 0
         have hfz46_1 := blk_frozen BK473.out 1
         have hcz47_0 : w41.cell? ⟨gb464, 0, none⟩ = some (.int .i64 t459) := (blk_cell BK464.out 0).trans rfl
         have hcz47_1 : w41.cell? ⟨gb464, 1, none⟩ = some (.slice Ao15 t460.length co15) := (blk_cell BK464.out 1).trans rfl
         have hfz47_0 := blk_frozen BK464.out 0
         have hfz47_1 := blk_frozen BK464.out 1
         go_wp2_with ((go_at_call 15; (with_reducible refine (laws_eqSpace.calls kj8 t468 _ _ t469 t459 _ _ t460 true _ ?side1 ?side2 ?side3 ?side4 A43.out).mono ?_); (case side1 => repeat (exact (Kd.R_reads' HO_474001.out).2.2)); (case side2 => exact (Kd.R_reads' HO_474001.out).2.1); (case side3 => repeat (exact (Kd.R_reads' HO_465001.out).2.2)); (case side4 => exact (Kd.R_reads' HO_465001.out).2.1); rintro e w48 ⟨rfl, hb⟩; have n0_ := Aside0.mk (Kd.S_below (by (with_reducible repeat (apply Kd.S_drew)); exact HO_8.out) hb); have n1_ := Aside0.mk (Kd.R_below (by (with_reducible repeat (apply Kd.R_drew)); exact HO_465001.out) hb); have n2_ := Aside0.mk (Kd.R_below (by (with_reducible repeat (apply Kd.R_drew)); exact HO_474001.out) hb); have n3_ := Aside0.mk (blk_below (g := gb464) (o := .cells #[.int .i64 t459, .slice Ao15 t460.length co15] 28 (0, 0)) (by (with_reducible repeat (refine blk_drew ?_)); exact BK464.out) hb); have n4_ := Aside0.mk (blk_below (g := gb473) (o := .cells #[.int .i64 t468, .slice Ao22 t469.length co22] 28 (0, 0)) (by (with_reducible repeat (refine blk_drew ?_)); exact BK473.out) hb); have n5_ := Aside0.mk (below_step (by repeat ((with_reducible exact HB.out))) hb); clear HO_8; clear HO_465001; clear HO_474001; clear BK464; clear BK473; clear HB; have HO_8 := n0_; have HO_465001 := n1_; have HO_474001 := n2_; have BK464 := n3_; have BK473 := n4_; have HB := n5_; clear n0_ n1_ n2_ n3_ n4_ n5_; (try clear hb); skip))
         go_meet
         case rel => exact ⟨_, ((t472 != t463)), (by rfl), H', ⟨by have := HJ8.out; omega⟩, ⟨by (with_reducible repeat (apply Kd.R_drew)); exact HO_465001.out⟩, ⟨by (with_reducible repeat (apply Kd.R_drew)); exact HO_474001.out⟩, ⟨by (with_reducible repeat (refine blk_drew ?_)); exact BK464.out⟩, ⟨by (with_reducible repeat (refine blk_drew ?_)); exact BK473.out⟩, ⟨by repeat ((with_reducible exact HB.out))⟩⟩
        ·replace c44 := Bool.eq_false_iff.mpr c44
         subst c44
         have H1 : (laws_FnExactEndsSpace.j1 kj8 a0 l1 t463 true t459 t460 t468 t469) = some r := by rw [if_neg (show ¬ (false = true) by decide)] at H; exact H
         clear H
         have H := H1
         clear H1
         have H' := Aside0.mk H
         clear H
         have hnb49 := NB473_464.out
         have hnc49 := NB464_473.out
         have hcz50_0 : w41.cell? ⟨gb473, 0, none⟩ = some (.int .i64 t468) := (blk_cell BK473.out 0).trans rfl
         have hcz50_1 : w41.cell? ⟨gb473, 1, none⟩ = some (.slice Ao22 t469.length co22) := (blk_cell BK473.out 1).trans rfl
         have hfz50_0 := blk_frozen BK473.out 0
         have hfz50_1 := blk_frozen BK473.out 1
         have hcz51_0 : w41.cell? ⟨gb464, 0, none⟩ = some (.int .i64 t459) := (blk_cell BK464.out 0).trans rfl
         have hcz51_1 : w41.cell? ⟨gb464, 1, none⟩ = some (.slice Ao15 t460.length co15) := (blk_cell BK464.out 1).trans rfl
         have hfz51_0 := blk_frozen BK464.out 0
         have hfz51_1 := blk_frozen BK464.out 1
         go_wp2_with ((go_at_call 15; (with_reducible refine (laws_eqSpace.calls kj8 t468 _ _ t469 t459 _ _ t460 false _ ?side1 ?side2 ?side3 ?side4 A43.out).mono ?_); (case side1 => repeat (exact (Kd.R_reads' HO_474001.out).2.2)); (case side2 => exact (Kd.R_reads' HO_474001.out).2.1); (case side3 => repeat (exact (Kd.R_reads' HO_465001.out).2.2)); (case side4 => exact (Kd.R_reads' HO_465001.out).2.1); rintro e w52 ⟨rfl, hb⟩; have n0_ := Aside0.mk (Kd.S_below (by (with_reducible repeat (apply Kd.S_drew)); exact HO_8.out) hb); have n1_ := Aside0.mk (Kd.R_below (by (with_reducible repeat (apply Kd.R_drew)); exact HO_465001.out) hb); have n2_ := Aside0.mk (Kd.R_below (by (with_reducible repeat (apply Kd.R_drew)); exact HO_474001.out) hb); have n3_ := Aside0.mk (blk_below (g := gb464) (o := .cells #[.int .i64 t459, .slice Ao15 t460.length co15] 28 (0, 0)) (by (with_reducible repeat (refine blk_drew ?_)); exact BK464.out) hb); have n4_ := Aside0.mk (blk_below (g := gb473) (o := .cells #[.int .i64 t468, .slice Ao22 t469.length co22] 28 (0, 0)) (by (with_reducible repeat (refine blk_drew ?_)); exact BK473.out) hb); have n5_ := Aside0.mk (below_step (by repeat ((with_reducible exact HB.out))) hb); clear HO_8; clear HO_465001; clear HO_474001; clear BK464; clear BK473; clear HB; have HO_8 := n0_; have HO_465001 := n1_; have HO_474001 := n2_; have BK464 := n3_; have BK473 := n4_; have HB := n5_; clear n0_ n1_ n2_ n3_ n4_ n5_; (try clear hb); skip))
         go_meet
         case rel => exact ⟨_, (true), (by rfl), H', ⟨by have := HJ8.out; omega⟩, ⟨by (with_reducible repeat (apply Kd.R_drew)); exact HO_465001.out⟩, ⟨by (with_reducible repeat (apply Kd.R_drew)); exact HO_474001.out⟩, ⟨by (with_reducible repeat (refine blk_drew ?_)); exact BK464.out⟩, ⟨by (with_reducible repeat (refine blk_drew ?_)); exact BK473.out⟩, ⟨by repeat ((with_reducible exact HB.out))⟩⟩
      case rest =>
       clear HC38
       try clear c1
       try clear c2
       try clear p2
       try clear c3
       try clear c4
       try clear c4b0
       try clear c6
       try clear c15
       try clear c20
       try clear c21
       try clear c22
       try clear c23
       try clear c24
       try clear c25
       try clear c26
       try clear c29
       try clear c33
       try clear c36
       try clear c42
       try clear c42b0
       try clear c44
       try clear c45
       try clear c49
       try clear hcz14_0
       try clear hcz14_1
       try clear hcz21_0
       try clear hcz21_1
       try clear hcz26_0
       try clear hcz26_1
       try clear hcz27_0
       try clear hcz27_1
       try clear hcz30_0
       try clear hcz30_1
       try clear hcz31_0
       try clear hcz31_1
       try clear hcz46_0
       try clear hcz46_1
       try clear hcz47_0
       try clear hcz47_1
       try clear hcz50_0
       try clear hcz50_1
       try clear hcz51_0
       try clear hcz51_1
       try clear hfz14_0
       try clear hfz14_1
       try clear hfz21_0
       try clear hfz21_1
       try clear hfz26_0
       try clear hfz26_1
       try clear hfz27_0
       try clear hfz27_1
       try clear hfz30_0
       try clear hfz30_1
       try clear hfz31_0
       try clear hfz31_1
       try clear hfz46_0
       try clear hfz46_1
       try clear hfz47_0
       try clear hfz47_1
       try clear hfz50_0
       try clear hfz50_1
       try clear hfz51_0
       try clear hfz51_1
       try clear p2
       obtain ⟨kq, x65_37, rfl, HA, HJ37, HO_465001, HO_474001, BK464, BK473, HB⟩ := hcut
       cases kq with
       | zero => exact absurd HA.out (by simp [laws_FnExactEndsSpace.j1])
       | succ kj37 =>
        have H := HA.out
        clear HA
        simp only [laws_FnExactEndsSpace.j1] at H
        by_cases c53 : x65_37 = true
        ·subst c53
         have H1 : (some false) = some r := by rw [if_pos rfl] at H; exact H
         clear H
         have H := H1
         clear H1
         obtain rfl := Option.some.inj H
         go_wp2
         go_ret
         exact ⟨by rfl, by repeat ((with_reducible exact HB.out))⟩
        ·replace c53 := Bool.eq_false_iff.mpr c53
         subst c53
         have H1 : ((laws_markSpace.f kj37 t468 t469 1).bind fun bt482 => ((laws_heldSpace.f kj37 t468 bt482.2 1).bind fun t484 => (if t484 < 0 then (some false) else (if t484 = bt482.1 then ((laws_toIntSS.f kj37 l1).bind fun t485 => ((impl_EndsSpace.f kj37 a0 t485).bind fun bt488 => ((laws_eqSpace.f kj37 bt488.1 bt488.2.1 t459 t460).bind fun t494 => (if t494 = true then (laws_FnExactEndsSpace.j2 kj37 bt482.1 (bt488.2.2 != t463) t468 bt482.2) else (laws_FnExactEndsSpace.j2 kj37 bt482.1 true t468 bt482.2))))) else (some false))))) = some r := by rw [if_neg (show ¬ (false = true) by decide)] at H; exact H
         clear H
         have H := H1
         clear H1
         replace H := Option.bind_eq_some_iff.mp H
         obtain ⟨⟨t482, t483⟩, A540, H⟩ := H
         replace H : ((laws_heldSpace.f kj37 t468 t483 1).bind fun t484 => (if t484 < 0 then (some false) else (if t484 = t482 then ((laws_toIntSS.f kj37 l1).bind fun t485 => ((impl_EndsSpace.f kj37 a0 t485).bind fun bt488 => ((laws_eqSpace.f kj37 bt488.1 bt488.2.1 t459 t460).bind fun t494 => (if t494 = true then (laws_FnExactEndsSpace.j2 kj37 t482 (bt488.2.2 != t463) t468 t483) else (laws_FnExactEndsSpace.j2 kj37 t482 true t468 t483))))) else (some false)))) = some r := H
         have A54 := Aside0.mk A540
         clear A540
         replace H := Option.bind_eq_some_iff.mp H
         obtain ⟨t484, A550, H⟩ := H
         replace H : (if t484 < 0 then (some false) else (if t484 = t482 then ((laws_toIntSS.f kj37 l1).bind fun t485 => ((impl_EndsSpace.f kj37 a0 t485).bind fun bt488 => ((laws_eqSpace.f kj37 bt488.1 bt488.2.1 t459 t460).bind fun t494 => (if t494 = true then (laws_FnExactEndsSpace.j2 kj37 t482 (bt488.2.2 != t463) t468 t483) else (laws_FnExactEndsSpace.j2 kj37 t482 true t468 t483))))) else (some false))) = some r := H
         have A55 := Aside0.mk A550
         clear A550
         by_cases c56 : t484 < 0
         ·rw [if_pos c56] at H
          have c56b0 : decide (t484 < 0) = true := decide_eq_true c56
          clear c56
          obtain rfl := Option.some.inj H
          have hnb57 := NB473_464.out
          have hnc57 := NB464_473.out
          have hcz58_0 : wc.cell? ⟨gb473, 0, none⟩ = some (.int .i64 t468) := (blk_cell BK473.out 0).trans rfl
          have hcz58_1 : wc.cell? ⟨gb473, 1, none⟩ = some (.slice Ao22 t469.length co22) := (blk_cell BK473.out 1).trans rfl
          have hfz58_0 := blk_frozen BK473.out 0
          have hfz58_1 := blk_frozen BK473.out 1
          go_wp2_with (first | ((with_reducible refine gate_callee (f := 27) rfl ?_); refine goesL_ (some 68) rfl rfl Try.func27 (by kernel_rfl) rfl #[.agg #[.int .i64 t468, .slice Ao22 t469.length co22], .int .i64 1] rfl (by (try simp only [List.map_toArray, List.map_cons, List.map_nil]); rfl) ?_; (with_reducible refine (laws_markSpace.calls kj37 t468 (fun k_ => some k_ = (.slice Ao22 t469.length co22 : Value).ownBlock) (.slice Ao22 t469.length co22) t469 1 t482 t483 w _ ?side1 ?side2 A54.out).mono ?_); (case side1 => repeat ((with_reducible exact HB.out))); (case side2 => exact Kd.R_tight rfl HO_474001.out); rintro e w59 ⟨rfl, hy0, hb, hkp⟩; refine ⟨_, rfl, ?_⟩; have n0_ := Aside0.mk (Kd.R_mono (ok' := fun k_ => some k_ ≠ (.slice Ao22 t469.length co22 : Value).ownBlock) (Kd.R_keptB (HO_465001.out) hkp (fun k_ hk_ hs_ => (hk_) hs_)) (fun k_ hk_ => hk_.1)); have n1_ := Aside0.mk (Kd.R_reok rfl hy0 (fun k_ e_ => HO_474001.out.1 k_ e_)); have n2_ := Aside0.mk (blk_kept (by (with_reducible repeat (refine blk_drew ?_)); exact BK464.out) hkp (fun hs_ => (fun e_ => (Kd.R_ne HO_474001.out BK464.out (by decide)) e_) hs_)); have n3_ := Aside0.mk (blk_kept (by (with_reducible repeat (refine blk_drew ?_)); exact BK473.out) hkp (fun hs_ => (fun e_ => (Kd.R_ne HO_474001.out BK473.out (by decide)) e_) hs_)); have n4_ := Aside0.mk (hb); clear HO_465001; clear HO_474001; clear BK464; clear BK473; clear HB; have HO_465001 := n0_; have HO_474001 := n1_; have BK464 := n2_; have BK473 := n3_; have HB := n4_; clear n0_ n1_ n2_ n3_ n4_; (try clear hb); (try clear hkp); (try clear hy0); have hcz60_0 : w59.cell? ⟨gb473, 0, none⟩ = some (.int .i64 t468) := (blk_cell BK473.out 0).trans rfl; have hcz60_1 : w59.cell? ⟨gb473, 1, none⟩ = some (.slice Ao22 t469.length co22) := (blk_cell BK473.out 1).trans rfl; have hfz60_0 := blk_frozen BK473.out 0; have hfz60_1 := blk_frozen BK473.out 1) | ((with_reducible refine gate_callee (f := 28) rfl ?_); refine goesL_ (some 71) rfl rfl Try.func28 (by kernel_rfl) rfl #[.agg #[.int .i64 t468, .slice Ao22 t483.length co22], .int .i64 1] rfl (by (try simp only [List.map_toArray, List.map_cons, List.map_nil]); (rw [show t483.length = t469.length from (Kd.R_reads' HO_474001.out).1.symm] <;> rfl)) ?_; (with_reducible refine (laws_heldSpace.calls kj37 t468 _ _ t483 1 t484 _ ?side1 ?side2 A55.out).mono ?_); (case side1 => repeat (exact (Kd.R_reads' HO_474001.out).2.2)); (case side2 => rw [show t483.length = t469.length from (Kd.R_reads' HO_474001.out).1.symm]; exact (Kd.R_reads' HO_474001.out).2.1); rintro e w61 ⟨rfl, hb⟩; refine ⟨_, rfl, ?_⟩; have n0_ := Aside0.mk (Kd.R_below (by (with_reducible repeat (apply Kd.R_drew)); exact HO_465001.out) hb); have n1_ := Aside0.mk (Kd.R_below (by (with_reducible repeat (apply Kd.R_drew)); exact HO_474001.out) hb); have n2_ := Aside0.mk (blk_below (g := gb464) (o := .cells #[.int .i64 t459, .slice Ao15 t460.length co15] 28 (0, 0)) (by (with_reducible repeat (refine blk_drew ?_)); exact BK464.out) hb); have n3_ := Aside0.mk (blk_below (g := gb473) (o := .cells #[.int .i64 t468, .slice Ao22 t469.length co22] 28 (0, 0)) (by (with_reducible repeat (refine blk_drew ?_)); exact BK473.out) hb); have n4_ := Aside0.mk (below_step (by repeat ((with_reducible exact HB.out))) hb); clear HO_465001; clear HO_474001; clear BK464; clear BK473; clear HB; have HO_465001 := n0_; have HO_474001 := n1_; have BK464 := n2_; have BK473 := n3_; have HB := n4_; clear n0_ n1_ n2_ n3_ n4_; (try clear hb); skip))
          go_ret
          exact ⟨by rfl, by repeat ((with_reducible exact HB.out))⟩
         ·rw [if_neg c56] at H
          have c56b0 : decide (t484 < 0) = false := decide_eq_false c56
          clear c56
          by_cases c62 : t484 = t482
          ·rw [if_pos c62] at H
           have c62b0 : (t484 == t482) = true := beq_iff_eq.mpr c62
           have c62b1 : (t484 != t482) = false := bne_eq_false_iff_eq.mpr c62
           clear c62
           replace H := Option.bind_eq_some_iff.mp H
           obtain ⟨t485, A630, H⟩ := H
           replace H : ((impl_EndsSpace.f kj37 a0 t485).bind fun bt488 => ((laws_eqSpace.f kj37 bt488.1 bt488.2.1 t459 t460).bind fun t494 => (if t494 = true then (laws_FnExactEndsSpace.j2 kj37 t482 (bt488.2.2 != t463) t468 t483) else (laws_FnExactEndsSpace.j2 kj37 t482 true t468 t483)))) = some r := H
           have A63 := Aside0.mk A630
           clear A630
           replace H := Option.bind_eq_some_iff.mp H
           obtain ⟨⟨t488, t489, t492⟩, A640, H⟩ := H
           replace H : ((laws_eqSpace.f kj37 t488 t489 t459 t460).bind fun t494 => (if t494 = true then (laws_FnExactEndsSpace.j2 kj37 t482 (t492 != t463) t468 t483) else (laws_FnExactEndsSpace.j2 kj37 t482 true t468 t483))) = some r := H
           have A64 := Aside0.mk A640
           clear A640
           have HC65 := Aside0.mk H
           clear H
           have hnb66 := NB473_464.out
           have hnc66 := NB464_473.out
           have hcz67_0 : wc.cell? ⟨gb473, 0, none⟩ = some (.int .i64 t468) := (blk_cell BK473.out 0).trans rfl
           have hcz67_1 : wc.cell? ⟨gb473, 1, none⟩ = some (.slice Ao22 t469.length co22) := (blk_cell BK473.out 1).trans rfl
           have hfz67_0 := blk_frozen BK473.out 0
           have hfz67_1 := blk_frozen BK473.out 1
           go_upto_region 25 with (first | ((with_reducible refine gate_callee (f := 27) rfl ?_); refine goesL_ (some 68) rfl rfl Try.func27 (by kernel_rfl) rfl #[.agg #[.int .i64 t468, .slice Ao22 t469.length co22], .int .i64 1] rfl (by (try simp only [List.map_toArray, List.map_cons, List.map_nil]); rfl) ?_; (with_reducible refine (laws_markSpace.calls kj37 t468 (fun k_ => some k_ = (.slice Ao22 t469.length co22 : Value).ownBlock) (.slice Ao22 t469.length co22) t469 1 t482 t483 w _ ?side1 ?side2 A54.out).mono ?_); (case side1 => repeat ((with_reducible exact HB.out))); (case side2 => exact Kd.R_tight rfl HO_474001.out); rintro e w68 ⟨rfl, hy0, hb, hkp⟩; refine ⟨_, rfl, ?_⟩; have n0_ := Aside0.mk (Kd.R_mono (ok' := fun k_ => some k_ ≠ (.slice Ao22 t469.length co22 : Value).ownBlock) (Kd.R_keptB (HO_465001.out) hkp (fun k_ hk_ hs_ => (hk_) hs_)) (fun k_ hk_ => hk_.1)); have n1_ := Aside0.mk (Kd.R_reok rfl hy0 (fun k_ e_ => HO_474001.out.1 k_ e_)); have n2_ := Aside0.mk (blk_kept (by (with_reducible repeat (refine blk_drew ?_)); exact BK464.out) hkp (fun hs_ => (fun e_ => (Kd.R_ne HO_474001.out BK464.out (by decide)) e_) hs_)); have n3_ := Aside0.mk (blk_kept (by (with_reducible repeat (refine blk_drew ?_)); exact BK473.out) hkp (fun hs_ => (fun e_ => (Kd.R_ne HO_474001.out BK473.out (by decide)) e_) hs_)); have n4_ := Aside0.mk (hb); clear HO_465001; clear HO_474001; clear BK464; clear BK473; clear HB; have HO_465001 := n0_; have HO_474001 := n1_; have BK464 := n2_; have BK473 := n3_; have HB := n4_; clear n0_ n1_ n2_ n3_ n4_; (try clear hb); (try clear hkp); (try clear hy0); have hcz69_0 : w68.cell? ⟨gb473, 0, none⟩ = some (.int .i64 t468) := (blk_cell BK473.out 0).trans rfl; have hcz69_1 : w68.cell? ⟨gb473, 1, none⟩ = some (.slice Ao22 t469.length co22) := (blk_cell BK473.out 1).trans rfl; have hfz69_0 := blk_frozen BK473.out 0; have hfz69_1 := blk_frozen BK473.out 1) | ((with_reducible refine gate_callee (f := 28) rfl ?_); refine goesL_ (some 71) rfl rfl Try.func28 (by kernel_rfl) rfl #[.agg #[.int .i64 t468, .slice Ao22 t483.length co22], .int .i64 1] rfl (by (try simp only [List.map_toArray, List.map_cons, List.map_nil]); (rw [show t483.length = t469.length from (Kd.R_reads' HO_474001.out).1.symm] <;> rfl)) ?_; (with_reducible refine (laws_heldSpace.calls kj37 t468 _ _ t483 1 t484 _ ?side1 ?side2 A55.out).mono ?_); (case side1 => repeat (exact (Kd.R_reads' HO_474001.out).2.2)); (case side2 => rw [show t483.length = t469.length from (Kd.R_reads' HO_474001.out).1.symm]; exact (Kd.R_reads' HO_474001.out).2.1); rintro e w70 ⟨rfl, hb⟩; refine ⟨_, rfl, ?_⟩; have n0_ := Aside0.mk (Kd.R_below (by (with_reducible repeat (apply Kd.R_drew)); exact HO_465001.out) hb); have n1_ := Aside0.mk (Kd.R_below (by (with_reducible repeat (apply Kd.R_drew)); exact HO_474001.out) hb); have n2_ := Aside0.mk (blk_below (g := gb464) (o := .cells #[.int .i64 t459, .slice Ao15 t460.length co15] 28 (0, 0)) (by (with_reducible repeat (refine blk_drew ?_)); exact BK464.out) hb); have n3_ := Aside0.mk (blk_below (g := gb473) (o := .cells #[.int .i64 t468, .slice Ao22 t469.length co22] 28 (0, 0)) (by (with_reducible repeat (refine blk_drew ?_)); exact BK473.out) hb); have n4_ := Aside0.mk (below_step (by repeat ((with_reducible exact HB.out))) hb); clear HO_465001; clear HO_474001; clear BK464; clear BK473; clear HB; have HO_465001 := n0_; have HO_474001 := n1_; have BK464 := n2_; have BK473 := n3_; have HB := n4_; clear n0_ n1_ n2_ n3_ n4_; (try clear hb); skip) | ((with_reducible refine gate_callee (f := 23) rfl ?_); refine goesL_ (some 80) rfl rfl Try.func23 (by kernel_rfl) rfl #[.slice A1 l1.length c1] rfl (by (try simp only [List.map_toArray, List.map_cons, List.map_nil]); rfl) ?_; (with_reducible refine (laws_toIntSS.calls kj37 _ _ l1 t485 _ ?side1 ?side2 A63.out).mono ?_); (case side1 => repeat (exact (Kd.C_below HR1.out HB.out))); (case side2 => exact HC1.out); rintro e w71 ⟨v486, rfl, ho0, hb⟩; refine ⟨_, rfl, ?_⟩; have n0_ := Aside0.mk (Kd.R_below (by (with_reducible repeat (apply Kd.R_drew)); exact HO_465001.out) hb); have n1_ := Aside0.mk (Kd.R_below (by (with_reducible repeat (apply Kd.R_drew)); exact HO_474001.out) hb); have n2_ := Aside0.mk (Kd.S_lower (Kd.S_new' (Kd.S_new' ho0 (Kd.R_lt (by (with_reducible repeat (apply Kd.R_drew)); exact HO_465001.out))) (Kd.R_lt (by (with_reducible repeat (apply Kd.R_drew)); exact HO_474001.out))) (below_size (by repeat ((with_reducible exact HB.out))))); have n3_ := Aside0.mk (blk_below (g := gb464) (o := .cells #[.int .i64 t459, .slice Ao15 t460.length co15] 28 (0, 0)) (by (with_reducible repeat (refine blk_drew ?_)); exact BK464.out) hb); have n4_ := Aside0.mk (blk_below (g := gb473) (o := .cells #[.int .i64 t468, .slice Ao22 t469.length co22] 28 (0, 0)) (by (with_reducible repeat (refine blk_drew ?_)); exact BK473.out) hb); have n5_ := Aside0.mk (below_step (by repeat ((with_reducible exact HB.out))) hb); clear HO_465001; clear HO_474001; clear BK464; clear BK473; clear HB; have HO_465001 := n0_; have HO_474001 := n1_; have HO487 := n2_; have BK464 := n3_; have BK473 := n4_; have HB := n5_; clear n0_ n1_ n2_ n3_ n4_ n5_; (try clear hb); (try clear ho0); obtain ⟨Ao72, co72, eo72⟩ := Kd.S_slice HO487.out; subst eo72) | ((with_reducible refine gate_callee (f := 24) rfl ?_); refine goesL_ (some 81) rfl rfl Try.func24 (by kernel_rfl) rfl #[.int .i64 a0, .slice Ao72 t485.length co72] rfl (by (try simp only [List.map_toArray, List.map_cons, List.map_nil]); rfl) ?_; (with_reducible refine (impl_EndsSpace.calls kj37 a0 _ _ t485 t488 t489 t492 _ ?side1 ?side2 A64.out).mono ?_); (case side1 => repeat (exact (Kd.S_reads' HO487.out).2.2)); (case side2 => exact (Kd.S_reads' HO487.out).2.1); rintro e w73 ⟨v490, rfl, ho0, hb⟩; refine ⟨_, rfl, ?_⟩; have n0_ := Aside0.mk (Kd.R_elder' (by (with_reducible repeat (apply Kd.R_drew)); exact HO_465001.out) (Kd.R_base ho0) hb); have n1_ := Aside0.mk (Kd.R_elder' (by (with_reducible repeat (apply Kd.R_drew)); exact HO_474001.out) (Kd.R_base ho0) hb); have n2_ := Aside0.mk (Kd.S_elder' (by (with_reducible repeat (apply Kd.S_drew)); exact HO487.out) (Kd.R_base ho0) hb); have n3_ := Aside0.mk (Kd.R_lower (Kd.R_new' (Kd.R_new' ho0 (Kd.R_lt (by (with_reducible repeat (apply Kd.R_drew)); exact HO_465001.out))) (Kd.R_lt (by (with_reducible repeat (apply Kd.R_drew)); exact HO_474001.out))) (below_size (by repeat ((with_reducible exact HB.out))))); have n4_ := Aside0.mk (blk_below (g := gb464) (o := .cells #[.int .i64 t459, .slice Ao15 t460.length co15] 28 (0, 0)) (by (with_reducible repeat (refine blk_drew ?_)); exact BK464.out) hb); have n5_ := Aside0.mk (blk_below (g := gb473) (o := .cells #[.int .i64 t468, .slice Ao22 t469.length co22] 28 (0, 0)) (by (with_reducible repeat (refine blk_drew ?_)); exact BK473.out) hb); have n6_ := Aside0.mk (below_step (by repeat ((with_reducible exact HB.out))) hb); clear HO_465001; clear HO_474001; clear HO487; clear BK464; clear BK473; clear HB; have HO_465001 := n0_; have HO_474001 := n1_; have HO487 := n2_; have HO491 := n3_; have BK464 := n4_; have BK473 := n5_; have HB := n6_; clear n0_ n1_ n2_ n3_ n4_ n5_ n6_; (try clear hb); (try clear ho0)) | ((with_reducible refine gate_dst (N := 14) rfl ?_); refine box_event ?hg (N := 14) ?hd (cs := #[.int .i64 0, .slice none 0 0]) (t := 28) ?hr ?_; (case hd => rfl); (case hg => rfl); (case hr => (go_simp; done)); intro gb493 hg w74 hbox hb; have n0_ := Aside0.mk (Kd.R_below (by (with_reducible repeat (apply Kd.R_drew)); exact HO_465001.out) hb); have n1_ := Aside0.mk (Kd.R_below (by (with_reducible repeat (apply Kd.R_drew)); exact HO_474001.out) hb); have n2_ := Aside0.mk (Kd.S_below (by (with_reducible repeat (apply Kd.S_drew)); exact HO487.out) hb); have n3_ := Aside0.mk (Kd.R_below (by (with_reducible repeat (apply Kd.R_drew)); exact HO491.out) hb); have n4_ := Aside0.mk (blk_below (g := gb464) (o := .cells #[.int .i64 t459, .slice Ao15 t460.length co15] 28 (0, 0)) (by (with_reducible repeat (refine blk_drew ?_)); exact BK464.out) hb); have n5_ := Aside0.mk (blk_below (g := gb473) (o := .cells #[.int .i64 t468, .slice Ao22 t469.length co22] 28 (0, 0)) (by (with_reducible repeat (refine blk_drew ?_)); exact BK473.out) hb); have n6_ := Aside0.mk (below_step (by repeat ((with_reducible exact HB.out))) hb); have n7_ := Aside0.mk (hbox); have n8_ := Aside0.mk ((by rw [hg]; exact (below_size (by repeat ((with_reducible exact HB.out)))) : w.heap.size ≤ gb493)); have n9_ := Aside0.mk ((by rw [hg]; exact (below_size (by repeat ((with_reducible exact HB.out)))) : w.heap.size ≤ gb493)); have n10_ := Aside0.mk ((by rw [hg]; exact Nat.ne_of_lt (blk_lt (g := gb464) (o := .cells #[.int .i64 t459, .slice Ao15 t460.length co15] 28 (0, 0)) (by (with_reducible repeat (refine blk_drew ?_)); exact BK464.out)) : gb464 ≠ gb493)); have n11_ := Aside0.mk ((by rw [hg]; exact Nat.ne_of_gt (blk_lt (g := gb464) (o := .cells #[.int .i64 t459, .slice Ao15 t460.length co15] 28 (0, 0)) (by (with_reducible repeat (refine blk_drew ?_)); exact BK464.out)) : gb493 ≠ gb464)); have n12_ := Aside0.mk ((by rw [hg]; exact Nat.ne_of_lt (blk_lt (g := gb473) (o := .cells #[.int .i64 t468, .slice Ao22 t469.length co22] 28 (0, 0)) (by (with_reducible repeat (refine blk_drew ?_)); exact BK473.out)) : gb473 ≠ gb493)); have n13_ := Aside0.mk ((by rw [hg]; exact Nat.ne_of_gt (blk_lt (g := gb473) (o := .cells #[.int .i64 t468, .slice Ao22 t469.length co22] 28 (0, 0)) (by (with_reducible repeat (refine blk_drew ?_)); exact BK473.out)) : gb493 ≠ gb473)); clear HO_465001; clear HO_474001; clear HO487; clear HO491; clear BK464; clear BK473; clear HB; have HO_465001 := n0_; have HO_474001 := n1_; have HO487 := n2_; have HO491 := n3_; have BK464 := n4_; have BK473 := n5_; have HB := n6_; have BK493 := n7_; have GW493 := n8_; have GE493 := n9_; have NB464_493 := n10_; have NB493_464 := n11_; have NB473_493 := n12_; have NB493_473 := n13_; clear n0_ n1_ n2_ n3_ n4_ n5_ n6_ n7_ n8_ n9_ n10_ n11_ n12_ n13_; clear hb hbox hg; have hnb75 := NB493_464.out; have hnc75 := NB464_493.out; have hnb76 := NB493_473.out; have hnc76 := NB473_493.out; have hcz77_0 : w74.cell? ⟨gb493, 0, none⟩ = some (.int .i64 0) := (blk_cell BK493.out 0).trans rfl; have hcz77_1 : w74.cell? ⟨gb493, 1, none⟩ = some (.slice none 0 0) := (blk_cell BK493.out 1).trans rfl; have hfz77_0 := blk_frozen BK493.out 0; have hfz77_1 := blk_frozen BK493.out 1; obtain ⟨Ao78, co78, eo78⟩ := Kd.R_slice HO491.out; subst eo78))
           skip
           go_cut [92] (fun v92 wc => ∃ (kq : Nat) (x92_64 : Bool), v92 = .bool x92_64 ∧ Aside0 (laws_FnExactEndsSpace.j2 kq t482 x92_64 t468 t483 = some r) ∧ Aside0 (kq ≤ kj37) ∧ Aside0 (Kd.R (Kd.int .i64) 3 wc w.heap.size (fun k_ => some k_ ≠ ((.slice Ao22 t469.length co22) : Value).ownBlock ∧ some k_ ≠ ((.slice Ao78 t489.length co78) : Value).ownBlock) (.slice Ao15 t460.length co15) t460) ∧ Aside0 (Kd.R (Kd.int .i64) 3 wc w.heap.size (fun k_ => some k_ ≠ ((.slice Ao15 t460.length co15) : Value).ownBlock ∧ some k_ ≠ ((.slice Ao78 t489.length co78) : Value).ownBlock) (.slice Ao22 t469.length co22) t483) ∧ Aside0 (Kd.R (Kd.int .i64) 3 wc w.heap.size (fun k_ => some k_ ≠ ((.slice Ao15 t460.length co15) : Value).ownBlock ∧ some k_ ≠ ((.slice Ao22 t469.length co22) : Value).ownBlock) (.slice Ao78 t489.length co78) t489) ∧ Aside0 (wc.heap[gb464]? = some (.cells #[.int .i64 t459, (.slice Ao15 t460.length co15)] 28 (0, 0))) ∧ Aside0 (wc.heap[gb473]? = some (.cells #[.int .i64 t468, (.slice Ao22 t469.length co22)] 28 (0, 0))) ∧ Aside0 (wc.heap[gb493]? = some (.cells #[.int .i64 t488, (.slice Ao78 t489.length co78)] 28 (0, 0))) ∧ Aside0 (Below w.heap.size w wc))
           case first =>
            have H := HC65.out
            clear HC65
            replace H := Option.bind_eq_some_iff.mp H
            obtain ⟨t494, A790, H⟩ := H
            replace H : (if t494 = true then (laws_FnExactEndsSpace.j2 kj37 t482 (t492 != t463) t468 t483) else (laws_FnExactEndsSpace.j2 kj37 t482 true t468 t483)) = some r := H
            have A79 := Aside0.mk A790
            clear A790
            by_cases c80 : t494 = true
            ·subst c80
             have H1 : (laws_FnExactEndsSpace.j2 kj37 t482 (t492 != t463) t468 t483) = some r := by rw [if_pos rfl] at H; exact H
             clear H
             have H := H1
             clear H1
             have H' := Aside0.mk H
             clear H
             have hnb81 := NB493_464.out
             have hnc81 := NB464_493.out
             have hnb82 := NB493_473.out
             have hnc82 := NB473_493.out
             have hcz83_0 : w74.cell? ⟨gb493, 0, none⟩ = some (.int .i64 0) := (blk_cell BK493.out 0).trans rfl
             have hcz83_1 : w74.cell? ⟨gb493, 1, none⟩ = some (.slice none 0 0) := (blk_cell BK493.out 1).trans rfl
             have hfz83_0 := blk_frozen BK493.out 0
             have hfz83_1 := blk_frozen BK493.out 1
             have hnb84 := NB464_473.out
             have hnc84 := NB473_464.out
             have hcz85_0 : w74.cell? ⟨gb464, 0, none⟩ = some (.int .i64 t459) := (blk_cell BK464.out 0).trans rfl
             have hcz85_1 : w74.cell? ⟨gb464, 1, none⟩ = some (.slice Ao15 t460.length co15) := (blk_cell BK464.out 1).trans rfl
             have hfz85_0 := blk_frozen BK464.out 0
             have hfz85_1 := blk_frozen BK464.out 1
             go_wp2_with (((with_reducible refine gate_callee (f := 15) rfl ?_); refine goesL_ (some 86) rfl rfl Try.func15 (by kernel_rfl) rfl #[.agg #[.int .i64 t488, .slice Ao78 t489.length co78], .agg #[.int .i64 t459, .slice Ao15 t460.length co15]] rfl (by (try simp only [List.map_toArray, List.map_cons, List.map_nil]); rfl) ?_; (with_reducible refine (laws_eqSpace.calls kj37 t488 _ _ t489 t459 _ _ t460 true _ ?side1 ?side2 ?side3 ?side4 A79.out).mono ?_); (case side1 => refine (Kd.R_reads' (e := 3) (base := w.heap.size) (ok := fun k_ => ((True ∧ some k_ ≠ (.slice Ao15 t460.length co15 : Value).ownBlock) ∧ some k_ ≠ (.slice Ao22 t469.length co22 : Value).ownBlock)) (n := t489.length) (c := co78) ?_).2.2; exact (by (with_reducible repeat (apply Kd.R_drew)); exact (Kd.R_mono (Kd.R_far (p := ⟨gb493, 1, none⟩) (Kd.R_far (p := ⟨gb493, 0, none⟩) (Kd.R_types HO491.out BK493.out (by decide)) (fun _ hk => hk.2) (.int .i64 t488)) (fun _ hk => hk.2) (.slice Ao78 t489.length co78)) (fun _ h_ => h_.1)))); (case side2 => exact (Kd.R_reads' HO491.out).2.1); (case side3 => refine (Kd.R_reads' (e := 3) (base := w.heap.size) (ok := fun k_ => (some k_ ≠ (.slice Ao22 t469.length co22 : Value).ownBlock ∧ some k_ ≠ (.slice Ao78 t489.length co78 : Value).ownBlock)) (n := t460.length) (c := co15) ?_).2.2; exact (by (with_reducible repeat (apply Kd.R_drew)); exact (Kd.R_mono (Kd.R_far (p := ⟨gb493, 1, none⟩) (Kd.R_far (p := ⟨gb493, 0, none⟩) (Kd.R_types HO_465001.out BK493.out (by decide)) (fun _ hk => hk.2) (.int .i64 t488)) (fun _ hk => hk.2) (.slice Ao78 t489.length co78)) (fun _ h_ => h_.1)))); (case side4 => exact (Kd.R_reads' HO_465001.out).2.1); rintro e w86 ⟨rfl, hb⟩; refine ⟨_, rfl, ?_⟩; have n0_ := Aside0.mk (Kd.R_below (by (with_reducible repeat (apply Kd.R_drew)); exact (Kd.R_mono (Kd.R_far (p := ⟨gb493, 1, none⟩) (Kd.R_far (p := ⟨gb493, 0, none⟩) (Kd.R_types HO_465001.out BK493.out (by decide)) (fun _ hk => hk.2) (.int .i64 t488)) (fun _ hk => hk.2) (.slice Ao78 t489.length co78)) (fun _ h_ => h_.1))) hb); have n1_ := Aside0.mk (Kd.R_below (by (with_reducible repeat (apply Kd.R_drew)); exact (Kd.R_mono (Kd.R_far (p := ⟨gb493, 1, none⟩) (Kd.R_far (p := ⟨gb493, 0, none⟩) (Kd.R_types HO_474001.out BK493.out (by decide)) (fun _ hk => hk.2) (.int .i64 t488)) (fun _ hk => hk.2) (.slice Ao78 t489.length co78)) (fun _ h_ => h_.1))) hb); have n2_ := Aside0.mk (Kd.S_below (by (with_reducible repeat (apply Kd.S_drew)); exact (Kd.S_mono (Kd.S_far (p := ⟨gb493, 1, none⟩) (Kd.S_far (p := ⟨gb493, 0, none⟩) (Kd.S_types HO487.out BK493.out (by decide)) (fun _ hk => hk.2) (.int .i64 t488)) (fun _ hk => hk.2) (.slice Ao78 t489.length co78)) (fun _ h_ => h_.1))) hb); have n3_ := Aside0.mk (Kd.R_below (by (with_reducible repeat (apply Kd.R_drew)); exact (Kd.R_mono (Kd.R_far (p := ⟨gb493, 1, none⟩) (Kd.R_far (p := ⟨gb493, 0, none⟩) (Kd.R_types HO491.out BK493.out (by decide)) (fun _ hk => hk.2) (.int .i64 t488)) (fun _ hk => hk.2) (.slice Ao78 t489.length co78)) (fun _ h_ => h_.1))) hb); have n4_ := Aside0.mk (blk_below (g := gb464) (o := .cells #[.int .i64 t459, .slice Ao15 t460.length co15] 28 (0, 0)) (by (with_reducible repeat (refine blk_drew ?_)); refine blk_far ?_ NB464_493.out _; (with_reducible repeat (refine blk_drew ?_)); refine blk_far ?_ NB464_493.out _; (with_reducible repeat (refine blk_drew ?_)); exact BK464.out) hb); have n5_ := Aside0.mk (blk_below (g := gb473) (o := .cells #[.int .i64 t468, .slice Ao22 t469.length co22] 28 (0, 0)) (by (with_reducible repeat (refine blk_drew ?_)); refine blk_far ?_ NB473_493.out _; (with_reducible repeat (refine blk_drew ?_)); refine blk_far ?_ NB473_493.out _; (with_reducible repeat (refine blk_drew ?_)); exact BK473.out) hb); have n6_ := Aside0.mk (blk_below (g := gb493) (o := .cells #[.int .i64 t488, .slice Ao78 t489.length co78] 28 (0, 0)) (by (with_reducible repeat (refine blk_drew ?_)); refine blk_put (cs := #[.int .i64 t488, .slice none 0 0]) ?_ 1 _ rfl; (with_reducible repeat (refine blk_drew ?_)); refine blk_put (cs := #[.int .i64 0, .slice none 0 0]) ?_ 0 _ rfl; (with_reducible repeat (refine blk_drew ?_)); exact BK493.out) hb); have n7_ := Aside0.mk (below_step (by repeat ((with_reducible first | exact HB.out | refine below_set ?_ GE493.out))) hb); clear HO_465001; clear HO_474001; clear HO487; clear HO491; clear BK464; clear BK473; clear BK493; clear HB; have HO_465001 := n0_; have HO_474001 := n1_; have HO487 := n2_; have HO491 := n3_; have BK464 := n4_; have BK473 := n5_; have BK493 := n6_; have HB := n7_; clear n0_ n1_ n2_ n3_ n4_ n5_ n6_ n7_; (try clear hb); skip))
             go_meet
             case rel => exact ⟨_, ((t492 != t463)), (by rfl), H', ⟨by have := HJ8.out; have := HJ37.out; omega⟩, ⟨by (with_reducible repeat (apply Kd.R_drew)); exact HO_465001.out⟩, ⟨by (with_reducible repeat (apply Kd.R_drew)); exact HO_474001.out⟩, ⟨by (with_reducible repeat (apply Kd.R_drew)); exact Kd.R_mono HO491.out (fun _ hk => ⟨hk.1.2, hk.2⟩)⟩, ⟨by (with_reducible repeat (refine blk_drew ?_)); exact BK464.out⟩, ⟨by (with_reducible repeat (refine blk_drew ?_)); exact BK473.out⟩, ⟨by (with_reducible repeat (refine blk_drew ?_)); exact BK493.out⟩, ⟨by repeat ((with_reducible exact HB.out))⟩⟩
            ·replace c80 := Bool.eq_false_iff.mpr c80
             subst c80
             have H1 : (laws_FnExactEndsSpace.j2 kj37 t482 true t468 t483) = some r := by rw [if_neg (show ¬ (false = true) by decide)] at H; exact H
             clear H
             have H := H1
             clear H1
             have H' := Aside0.mk H
             clear H
             have hnb87 := NB493_464.out
             have hnc87 := NB464_493.out
             have hnb88 := NB493_473.out
             have hnc88 := NB473_493.out
             have hcz89_0 : w74.cell? ⟨gb493, 0, none⟩ = some (.int .i64 0) := (blk_cell BK493.out 0).trans rfl
             have hcz89_1 : w74.cell? ⟨gb493, 1, none⟩ = some (.slice none 0 0) := (blk_cell BK493.out 1).trans rfl
             have hfz89_0 := blk_frozen BK493.out 0
             have hfz89_1 := blk_frozen BK493.out 1
             have hnb90 := NB464_473.out
             have hnc90 := NB473_464.out
             have hcz91_0 : w74.cell? ⟨gb464, 0, none⟩ = some (.int .i64 t459) := (blk_cell BK464.out 0).trans rfl
             have hcz91_1 : w74.cell? ⟨gb464, 1, none⟩ = some (.slice Ao15 t460.length co15) := (blk_cell BK464.out 1).trans rfl
             have hfz91_0 := blk_frozen BK464.out 0
             have hfz91_1 := blk_frozen BK464.out 1
             go_wp2_with (((with_reducible refine gate_callee (f := 15) rfl ?_); refine goesL_ (some 86) rfl rfl Try.func15 (by kernel_rfl) rfl #[.agg #[.int .i64 t488, .slice Ao78 t489.length co78], .agg #[.int .i64 t459, .slice Ao15 t460.length co15]] rfl (by (try simp only [List.map_toArray, List.map_cons, List.map_nil]); rfl) ?_; (with_reducible refine (laws_eqSpace.calls kj37 t488 _ _ t489 t459 _ _ t460 false _ ?side1 ?side2 ?side3 ?side4 A79.out).mono ?_); (case side1 => refine (Kd.R_reads' (e := 3) (base := w.heap.size) (ok := fun k_ => ((True ∧ some k_ ≠ (.slice Ao15 t460.length co15 : Value).ownBlock) ∧ some k_ ≠ (.slice Ao22 t469.length co22 : Value).ownBlock)) (n := t489.length) (c := co78) ?_).2.2; exact (by (with_reducible repeat (apply Kd.R_drew)); exact (Kd.R_mono (Kd.R_far (p := ⟨gb493, 1, none⟩) (Kd.R_far (p := ⟨gb493, 0, none⟩) (Kd.R_types HO491.out BK493.out (by decide)) (fun _ hk => hk.2) (.int .i64 t488)) (fun _ hk => hk.2) (.slice Ao78 t489.length co78)) (fun _ h_ => h_.1)))); (case side2 => exact (Kd.R_reads' HO491.out).2.1); (case side3 => refine (Kd.R_reads' (e := 3) (base := w.heap.size) (ok := fun k_ => (some k_ ≠ (.slice Ao22 t469.length co22 : Value).ownBlock ∧ some k_ ≠ (.slice Ao78 t489.length co78 : Value).ownBlock)) (n := t460.length) (c := co15) ?_).2.2; exact (by (with_reducible repeat (apply Kd.R_drew)); exact (Kd.R_mono (Kd.R_far (p := ⟨gb493, 1, none⟩) (Kd.R_far (p := ⟨gb493, 0, none⟩) (Kd.R_types HO_465001.out BK493.out (by decide)) (fun _ hk => hk.2) (.int .i64 t488)) (fun _ hk => hk.2) (.slice Ao78 t489.length co78)) (fun _ h_ => h_.1)))); (case side4 => exact (Kd.R_reads' HO_465001.out).2.1); rintro e w92 ⟨rfl, hb⟩; refine ⟨_, rfl, ?_⟩; have n0_ := Aside0.mk (Kd.R_below (by (with_reducible repeat (apply Kd.R_drew)); exact (Kd.R_mono (Kd.R_far (p := ⟨gb493, 1, none⟩) (Kd.R_far (p := ⟨gb493, 0, none⟩) (Kd.R_types HO_465001.out BK493.out (by decide)) (fun _ hk => hk.2) (.int .i64 t488)) (fun _ hk => hk.2) (.slice Ao78 t489.length co78)) (fun _ h_ => h_.1))) hb); have n1_ := Aside0.mk (Kd.R_below (by (with_reducible repeat (apply Kd.R_drew)); exact (Kd.R_mono (Kd.R_far (p := ⟨gb493, 1, none⟩) (Kd.R_far (p := ⟨gb493, 0, none⟩) (Kd.R_types HO_474001.out BK493.out (by decide)) (fun _ hk => hk.2) (.int .i64 t488)) (fun _ hk => hk.2) (.slice Ao78 t489.length co78)) (fun _ h_ => h_.1))) hb); have n2_ := Aside0.mk (Kd.S_below (by (with_reducible repeat (apply Kd.S_drew)); exact (Kd.S_mono (Kd.S_far (p := ⟨gb493, 1, none⟩) (Kd.S_far (p := ⟨gb493, 0, none⟩) (Kd.S_types HO487.out BK493.out (by decide)) (fun _ hk => hk.2) (.int .i64 t488)) (fun _ hk => hk.2) (.slice Ao78 t489.length co78)) (fun _ h_ => h_.1))) hb); have n3_ := Aside0.mk (Kd.R_below (by (with_reducible repeat (apply Kd.R_drew)); exact (Kd.R_mono (Kd.R_far (p := ⟨gb493, 1, none⟩) (Kd.R_far (p := ⟨gb493, 0, none⟩) (Kd.R_types HO491.out BK493.out (by decide)) (fun _ hk => hk.2) (.int .i64 t488)) (fun _ hk => hk.2) (.slice Ao78 t489.length co78)) (fun _ h_ => h_.1))) hb); have n4_ := Aside0.mk (blk_below (g := gb464) (o := .cells #[.int .i64 t459, .slice Ao15 t460.length co15] 28 (0, 0)) (by (with_reducible repeat (refine blk_drew ?_)); refine blk_far ?_ NB464_493.out _; (with_reducible repeat (refine blk_drew ?_)); refine blk_far ?_ NB464_493.out _; (with_reducible repeat (refine blk_drew ?_)); exact BK464.out) hb); have n5_ := Aside0.mk (blk_below (g := gb473) (o := .cells #[.int .i64 t468, .slice Ao22 t469.length co22] 28 (0, 0)) (by (with_reducible repeat (refine blk_drew ?_)); refine blk_far ?_ NB473_493.out _; (with_reducible repeat (refine blk_drew ?_)); refine blk_far ?_ NB473_493.out _; (with_reducible repeat (refine blk_drew ?_)); exact BK473.out) hb); have n6_ := Aside0.mk (blk_below (g := gb493) (o := .cells #[.int .i64 t488, .slice Ao78 t489.length co78] 28 (0, 0)) (by (with_reducible repeat (refine blk_drew ?_)); refine blk_put (cs := #[.int .i64 t488, .slice none 0 0]) ?_ 1 _ rfl; (with_reducible repeat (refine blk_drew ?_)); refine blk_put (cs := #[.int .i64 0, .slice none 0 0]) ?_ 0 _ rfl; (with_reducible repeat (refine blk_drew ?_)); exact BK493.out) hb); have n7_ := Aside0.mk (below_step (by repeat ((with_reducible first | exact HB.out | refine below_set ?_ GE493.out))) hb); clear HO_465001; clear HO_474001; clear HO487; clear HO491; clear BK464; clear BK473; clear BK493; clear HB; have HO_465001 := n0_; have HO_474001 := n1_; have HO487 := n2_; have HO491 := n3_; have BK464 := n4_; have BK473 := n5_; have BK493 := n6_; have HB := n7_; clear n0_ n1_ n2_ n3_ n4_ n5_ n6_ n7_; (try clear hb); skip))
             go_meet
             case rel => exact ⟨_, (true), (by rfl), H', ⟨by have := HJ8.out; have := HJ37.out; omega⟩, ⟨by (with_reducible repeat (apply Kd.R_drew)); exact HO_465001.out⟩, ⟨by (with_reducible repeat (apply Kd.R_drew)); exact HO_474001.out⟩, ⟨by (with_reducible repeat (apply Kd.R_drew)); exact Kd.R_mono HO491.out (fun _ hk => ⟨hk.1.2, hk.2⟩)⟩, ⟨by (with_reducible repeat (refine blk_drew ?_)); exact BK464.out⟩, ⟨by (with_reducible repeat (refine blk_drew ?_)); exact BK473.out⟩, ⟨by (with_reducible repeat (refine blk_drew ?_)); exact BK493.out⟩, ⟨by repeat ((with_reducible exact HB.out))⟩⟩
           case rest =>
            clear HC65
            try clear c1
            try clear c2
            try clear p2
            try clear c3
            try clear c4
            try clear c4b0
            try clear c5
            try clear c6
            try clear c7
            try clear c8
            try clear c9
            try clear c15
            try clear c20
            try clear c21
            try clear c22
            try clear c23
            try clear c24
            try clear c25
            try clear c26
            try clear c27
            try clear c28
            try clear c29
            try clear c33
            try clear c36
            try clear c42
            try clear c42b0
            try clear c44
            try clear c45
            try clear c49
            try clear c53
            try clear c56
            try clear c56b0
            try clear c57
            try clear c62
            try clear c62b0
            try clear c62b1
            try clear c66
            try clear c75
            try clear c76
            try clear c80
            try clear c81
            try clear c82
            try clear c84
            try clear c87
            try clear c88
            try clear c90
            try clear hcz14_0
            try clear hcz14_1
            try clear hcz21_0
            try clear hcz21_1
            try clear hcz26_0
            try clear hcz26_1
            try clear hcz27_0
            try clear hcz27_1
            try clear hcz30_0
            try clear hcz30_1
            try clear hcz31_0
            try clear hcz31_1
            try clear hcz46_0
            try clear hcz46_1
            try clear hcz47_0
            try clear hcz47_1
            try clear hcz50_0
            try clear hcz50_1
            try clear hcz51_0
            try clear hcz51_1
            try clear hcz58_0
            try clear hcz58_1
            try clear hcz60_0
            try clear hcz60_1
            try clear hcz67_0
            try clear hcz67_1
            try clear hcz69_0
            try clear hcz69_1
            try clear hcz77_0
            try clear hcz77_1
            try clear hcz83_0
            try clear hcz83_1
            try clear hcz85_0
            try clear hcz85_1
            try clear hcz89_0
            try clear hcz89_1
            try clear hcz91_0
            try clear hcz91_1
            try clear hfz14_0
            try clear hfz14_1
            try clear hfz21_0
            try clear hfz21_1
            try clear hfz26_0
            try clear hfz26_1
            try clear hfz27_0
            try clear hfz27_1
            try clear hfz30_0
            try clear hfz30_1
            try clear hfz31_0
            try clear hfz31_1
            try clear hfz46_0
            try clear hfz46_1
            try clear hfz47_0
            try clear hfz47_1
            try clear hfz50_0
            try clear hfz50_1
            try clear hfz51_0
            try clear hfz51_1
            try clear hfz58_0
            try clear hfz58_1
            try clear hfz60_0
            try clear hfz60_1
            try clear hfz67_0
            try clear hfz67_1
            try clear hfz69_0
            try clear hfz69_1
            try clear hfz77_0
            try clear hfz77_1
            try clear hfz83_0
            try clear hfz83_1
            try clear hfz85_0
            try clear hfz85_1
            try clear hfz89_0
            try clear hfz89_1
            try clear hfz91_0
            try clear hfz91_1
            try clear p2
            obtain ⟨kq, x92_64, rfl, HA, HJ64, HO_465001, HO_474001, HO_494001, BK464, BK473, BK493, HB⟩ := hcut
            have hl474001_64 := (Kd.R_reads' HO_474001.out).1
            rw [hl474001_64] at HO_474001
            skip
            skip
            (try simp only [hl474001_64] at BK473)
            skip
            (try simp only [hl474001_64] at HO_465001)
            (try simp only [hl474001_64] at HO_494001)
            cases kq with
            | zero => exact absurd HA.out (by simp [laws_FnExactEndsSpace.j2])
            | succ kj64 =>
             have H := HA.out
             clear HA
             simp only [laws_FnExactEndsSpace.j2] at H
             by_cases c93 : x92_64 = true
             ·subst c93
              have H1 : (some false) = some r := by rw [if_pos rfl] at H; exact H
              clear H
              have H := H1
              clear H1
              obtain rfl := Option.some.inj H
              go_wp2
              go_ret
              exact ⟨by rfl, by repeat ((with_reducible exact HB.out))⟩
             ·replace c93 := Bool.eq_false_iff.mpr c93
              subst c93
              have H1 : ((laws_heldSpace.f kj64 t468 t483 1).bind fun t495 => (if t495 < 0 then (some false) else (if t495 = t482 then (some true) else (some false)))) = some r := by rw [if_neg (show ¬ (false = true) by decide)] at H; exact H
              clear H
              have H := H1
              clear H1
              replace H := Option.bind_eq_some_iff.mp H
              obtain ⟨t495, A940, H⟩ := H
              replace H : (if t495 < 0 then (some false) else (if t495 = t482 then (some true) else (some false))) = some r := H
              have A94 := Aside0.mk A940
              clear A940
              by_cases c95 : t495 < 0
              ·rw [if_pos c95] at H
               have c95b0 : decide (t495 < 0) = true := decide_eq_true c95
               clear c95
               obtain rfl := Option.some.inj H
               have hnb96 := NB473_464.out
               have hnc96 := NB464_473.out
               have hnb97 := NB473_493.out
               have hnc97 := NB493_473.out
               have hcz98_0 : wc.cell? ⟨gb473, 0, none⟩ = some (.int .i64 t468) := (blk_cell BK473.out 0).trans rfl
               have hcz98_1 : wc.cell? ⟨gb473, 1, none⟩ = some (.slice Ao22 t483.length co22) := (blk_cell BK473.out 1).trans rfl
               have hfz98_0 := blk_frozen BK473.out 0
               have hfz98_1 := blk_frozen BK473.out 1
               go_wp2_with (((with_reducible refine gate_callee (f := 28) rfl ?_); refine goesL_ (some 95) rfl rfl Try.func28 (by kernel_rfl) rfl #[.agg #[.int .i64 t468, .slice Ao22 t483.length co22], .int .i64 1] rfl (by (try simp only [List.map_toArray, List.map_cons, List.map_nil]); rfl) ?_; (with_reducible refine (laws_heldSpace.calls kj64 t468 _ _ t483 1 t495 _ ?side1 ?side2 A94.out).mono ?_); (case side1 => repeat (exact (Kd.R_reads' HO_474001.out).2.2)); (case side2 => exact (Kd.R_reads' HO_474001.out).2.1); rintro e w99 ⟨rfl, hb⟩; refine ⟨_, rfl, ?_⟩; have n0_ := Aside0.mk (Kd.R_below (by (with_reducible repeat (apply Kd.R_drew)); exact HO_465001.out) hb); have n1_ := Aside0.mk (Kd.R_below (by (with_reducible repeat (apply Kd.R_drew)); exact HO_474001.out) hb); have n2_ := Aside0.mk (Kd.R_below (by (with_reducible repeat (apply Kd.R_drew)); exact HO_494001.out) hb); have n3_ := Aside0.mk (blk_below (g := gb464) (o := .cells #[.int .i64 t459, .slice Ao15 t460.length co15] 28 (0, 0)) (by (with_reducible repeat (refine blk_drew ?_)); exact BK464.out) hb); have n4_ := Aside0.mk (blk_below (g := gb473) (o := .cells #[.int .i64 t468, .slice Ao22 t483.length co22] 28 (0, 0)) (by (with_reducible repeat (refine blk_drew ?_)); exact BK473.out) hb); have n5_ := Aside0.mk (blk_below (g := gb493) (o := .cells #[.int .i64 t488, .slice Ao78 t489.length co78] 28 (0, 0)) (by (with_reducible repeat (refine blk_drew ?_)); exact BK493.out) hb); have n6_ := Aside0.mk (below_step (by repeat ((with_reducible exact HB.out))) hb); clear HO_465001; clear HO_474001; clear HO_494001; clear BK464; clear BK473; clear BK493; clear HB; have HO_465001 := n0_; have HO_474001 := n1_; have HO_494001 := n2_; have BK464 := n3_; have BK473 := n4_; have BK493 := n5_; have HB := n6_; clear n0_ n1_ n2_ n3_ n4_ n5_ n6_; (try clear hb); skip))
               go_ret
               exact ⟨by rfl, by repeat ((with_reducible exact HB.out))⟩
              ·rw [if_neg c95] at H
               have c95b0 : decide (t495 < 0) = false := decide_eq_false c95
               clear c95
               by_cases c100 : t495 = t482
               ·rw [if_pos c100] at H
                have c100b0 : (t495 == t482) = true := beq_iff_eq.mpr c100
                have c100b1 : (t495 != t482) = false := bne_eq_false_iff_eq.mpr c100
                clear c100
                obtain rfl := Option.some.inj H
                have hnb101 := NB473_464.out
                have hnc101 := NB464_473.out
                have hnb102 := NB473_493.out
                have hnc102 := NB493_473.out
                have hcz103_0 : wc.cell? ⟨gb473, 0, none⟩ = some (.int .i64 t468) := (blk_cell BK473.out 0).trans rfl
                have hcz103_1 : wc.cell? ⟨gb473, 1, none⟩ = some (.slice Ao22 t483.length co22) := (blk_cell BK473.out 1).trans rfl
                have hfz103_0 := blk_frozen BK473.out 0
                have hfz103_1 := blk_frozen BK473.out 1
                go_wp2_with (((with_reducible refine gate_callee (f := 28) rfl ?_); refine goesL_ (some 95) rfl rfl Try.func28 (by kernel_rfl) rfl #[.agg #[.int .i64 t468, .slice Ao22 t483.length co22], .int .i64 1] rfl (by (try simp only [List.map_toArray, List.map_cons, List.map_nil]); rfl) ?_; (with_reducible refine (laws_heldSpace.calls kj64 t468 _ _ t483 1 t495 _ ?side1 ?side2 A94.out).mono ?_); (case side1 => repeat (exact (Kd.R_reads' HO_474001.out).2.2)); (case side2 => exact (Kd.R_reads' HO_474001.out).2.1); rintro e w104 ⟨rfl, hb⟩; refine ⟨_, rfl, ?_⟩; have n0_ := Aside0.mk (Kd.R_below (by (with_reducible repeat (apply Kd.R_drew)); exact HO_465001.out) hb); have n1_ := Aside0.mk (Kd.R_below (by (with_reducible repeat (apply Kd.R_drew)); exact HO_474001.out) hb); have n2_ := Aside0.mk (Kd.R_below (by (with_reducible repeat (apply Kd.R_drew)); exact HO_494001.out) hb); have n3_ := Aside0.mk (blk_below (g := gb464) (o := .cells #[.int .i64 t459, .slice Ao15 t460.length co15] 28 (0, 0)) (by (with_reducible repeat (refine blk_drew ?_)); exact BK464.out) hb); have n4_ := Aside0.mk (blk_below (g := gb473) (o := .cells #[.int .i64 t468, .slice Ao22 t483.length co22] 28 (0, 0)) (by (with_reducible repeat (refine blk_drew ?_)); exact BK473.out) hb); have n5_ := Aside0.mk (blk_below (g := gb493) (o := .cells #[.int .i64 t488, .slice Ao78 t489.length co78] 28 (0, 0)) (by (with_reducible repeat (refine blk_drew ?_)); exact BK493.out) hb); have n6_ := Aside0.mk (below_step (by repeat ((with_reducible exact HB.out))) hb); clear HO_465001; clear HO_474001; clear HO_494001; clear BK464; clear BK473; clear BK493; clear HB; have HO_465001 := n0_; have HO_474001 := n1_; have HO_494001 := n2_; have BK464 := n3_; have BK473 := n4_; have BK493 := n5_; have HB := n6_; clear n0_ n1_ n2_ n3_ n4_ n5_ n6_; (try clear hb); skip))
                go_ret
                exact ⟨by rfl, by repeat ((with_reducible exact HB.out))⟩
               ·rw [if_neg c100] at H
                have c100b0 : (t495 == t482) = false := beq_eq_false_iff_ne.mpr c100
                have c100b1 : (t495 != t482) = true := bne_iff_ne.mpr c100
                obtain rfl := Option.some.inj H
                have hnb105 := NB473_464.out
                have hnc105 := NB464_473.out
                have hnb106 := NB473_493.out
                have hnc106 := NB493_473.out
                have hcz107_0 : wc.cell? ⟨gb473, 0, none⟩ = some (.int .i64 t468) := (blk_cell BK473.out 0).trans rfl
                have hcz107_1 : wc.cell? ⟨gb473, 1, none⟩ = some (.slice Ao22 t483.length co22) := (blk_cell BK473.out 1).trans rfl
                have hfz107_0 := blk_frozen BK473.out 0
                have hfz107_1 := blk_frozen BK473.out 1
                go_wp2_with (((with_reducible refine gate_callee (f := 28) rfl ?_); refine goesL_ (some 95) rfl rfl Try.func28 (by kernel_rfl) rfl #[.agg #[.int .i64 t468, .slice Ao22 t483.length co22], .int .i64 1] rfl (by (try simp only [List.map_toArray, List.map_cons, List.map_nil]); rfl) ?_; (with_reducible refine (laws_heldSpace.calls kj64 t468 _ _ t483 1 t495 _ ?side1 ?side2 A94.out).mono ?_); (case side1 => repeat (exact (Kd.R_reads' HO_474001.out).2.2)); (case side2 => exact (Kd.R_reads' HO_474001.out).2.1); rintro e w108 ⟨rfl, hb⟩; refine ⟨_, rfl, ?_⟩; have n0_ := Aside0.mk (Kd.R_below (by (with_reducible repeat (apply Kd.R_drew)); exact HO_465001.out) hb); have n1_ := Aside0.mk (Kd.R_below (by (with_reducible repeat (apply Kd.R_drew)); exact HO_474001.out) hb); have n2_ := Aside0.mk (Kd.R_below (by (with_reducible repeat (apply Kd.R_drew)); exact HO_494001.out) hb); have n3_ := Aside0.mk (blk_below (g := gb464) (o := .cells #[.int .i64 t459, .slice Ao15 t460.length co15] 28 (0, 0)) (by (with_reducible repeat (refine blk_drew ?_)); exact BK464.out) hb); have n4_ := Aside0.mk (blk_below (g := gb473) (o := .cells #[.int .i64 t468, .slice Ao22 t483.length co22] 28 (0, 0)) (by (with_reducible repeat (refine blk_drew ?_)); exact BK473.out) hb); have n5_ := Aside0.mk (blk_below (g := gb493) (o := .cells #[.int .i64 t488, .slice Ao78 t489.length co78] 28 (0, 0)) (by (with_reducible repeat (refine blk_drew ?_)); exact BK493.out) hb); have n6_ := Aside0.mk (below_step (by repeat ((with_reducible exact HB.out))) hb); clear HO_465001; clear HO_474001; clear HO_494001; clear BK464; clear BK473; clear BK493; clear HB; have HO_465001 := n0_; have HO_474001 := n1_; have HO_494001 := n2_; have BK464 := n3_; have BK473 := n4_; have BK493 := n5_; have HB := n6_; clear n0_ n1_ n2_ n3_ n4_ n5_ n6_; (try clear hb); skip))
                go_ret
                exact ⟨by rfl, by repeat ((with_reducible exact HB.out))⟩
          ·rw [if_neg c62] at H
           have c62b0 : (t484 == t482) = false := beq_eq_false_iff_ne.mpr c62
           have c62b1 : (t484 != t482) = true := bne_iff_ne.mpr c62
           obtain rfl := Option.some.inj H
           have hnb109 := NB473_464.out
           have hnc109 := NB464_473.out
           have hcz110_0 : wc.cell? ⟨gb473, 0, none⟩ = some (.int .i64 t468) := (blk_cell BK473.out 0).trans rfl
           have hcz110_1 : wc.cell? ⟨gb473, 1, none⟩ = some (.slice Ao22 t469.length co22) := (blk_cell BK473.out 1).trans rfl
           have hfz110_0 := blk_frozen BK473.out 0
           have hfz110_1 := blk_frozen BK473.out 1
           go_wp2_with (first | ((with_reducible refine gate_callee (f := 27) rfl ?_); refine goesL_ (some 68) rfl rfl Try.func27 (by kernel_rfl) rfl #[.agg #[.int .i64 t468, .slice Ao22 t469.length co22], .int .i64 1] rfl (by (try simp only [List.map_toArray, List.map_cons, List.map_nil]); rfl) ?_; (with_reducible refine (laws_markSpace.calls kj37 t468 (fun k_ => some k_ = (.slice Ao22 t469.length co22 : Value).ownBlock) (.slice Ao22 t469.length co22) t469 1 t482 t483 w _ ?side1 ?side2 A54.out).mono ?_); (case side1 => repeat ((with_reducible exact HB.out))); (case side2 => exact Kd.R_tight rfl HO_474001.out); rintro e w111 ⟨rfl, hy0, hb, hkp⟩; refine ⟨_, rfl, ?_⟩; have n0_ := Aside0.mk (Kd.R_mono (ok' := fun k_ => some k_ ≠ (.slice Ao22 t469.length co22 : Value).ownBlock) (Kd.R_keptB (HO_465001.out) hkp (fun k_ hk_ hs_ => (hk_) hs_)) (fun k_ hk_ => hk_.1)); have n1_ := Aside0.mk (Kd.R_reok rfl hy0 (fun k_ e_ => HO_474001.out.1 k_ e_)); have n2_ := Aside0.mk (blk_kept (by (with_reducible repeat (refine blk_drew ?_)); exact BK464.out) hkp (fun hs_ => (fun e_ => (Kd.R_ne HO_474001.out BK464.out (by decide)) e_) hs_)); have n3_ := Aside0.mk (blk_kept (by (with_reducible repeat (refine blk_drew ?_)); exact BK473.out) hkp (fun hs_ => (fun e_ => (Kd.R_ne HO_474001.out BK473.out (by decide)) e_) hs_)); have n4_ := Aside0.mk (hb); clear HO_465001; clear HO_474001; clear BK464; clear BK473; clear HB; have HO_465001 := n0_; have HO_474001 := n1_; have BK464 := n2_; have BK473 := n3_; have HB := n4_; clear n0_ n1_ n2_ n3_ n4_; (try clear hb); (try clear hkp); (try clear hy0); have hcz112_0 : w111.cell? ⟨gb473, 0, none⟩ = some (.int .i64 t468) := (blk_cell BK473.out 0).trans rfl; have hcz112_1 : w111.cell? ⟨gb473, 1, none⟩ = some (.slice Ao22 t469.length co22) := (blk_cell BK473.out 1).trans rfl; have hfz112_0 := blk_frozen BK473.out 0; have hfz112_1 := blk_frozen BK473.out 1) | ((with_reducible refine gate_callee (f := 28) rfl ?_); refine goesL_ (some 71) rfl rfl Try.func28 (by kernel_rfl) rfl #[.agg #[.int .i64 t468, .slice Ao22 t483.length co22], .int .i64 1] rfl (by (try simp only [List.map_toArray, List.map_cons, List.map_nil]); (rw [show t483.length = t469.length from (Kd.R_reads' HO_474001.out).1.symm] <;> rfl)) ?_; (with_reducible refine (laws_heldSpace.calls kj37 t468 _ _ t483 1 t484 _ ?side1 ?side2 A55.out).mono ?_); (case side1 => repeat (exact (Kd.R_reads' HO_474001.out).2.2)); (case side2 => rw [show t483.length = t469.length from (Kd.R_reads' HO_474001.out).1.symm]; exact (Kd.R_reads' HO_474001.out).2.1); rintro e w113 ⟨rfl, hb⟩; refine ⟨_, rfl, ?_⟩; have n0_ := Aside0.mk (Kd.R_below (by (with_reducible repeat (apply Kd.R_drew)); exact HO_465001.out) hb); have n1_ := Aside0.mk (Kd.R_below (by (with_reducible repeat (apply Kd.R_drew)); exact HO_474001.out) hb); have n2_ := Aside0.mk (blk_below (g := gb464) (o := .cells #[.int .i64 t459, .slice Ao15 t460.length co15] 28 (0, 0)) (by (with_reducible repeat (refine blk_drew ?_)); exact BK464.out) hb); have n3_ := Aside0.mk (blk_below (g := gb473) (o := .cells #[.int .i64 t468, .slice Ao22 t469.length co22] 28 (0, 0)) (by (with_reducible repeat (refine blk_drew ?_)); exact BK473.out) hb); have n4_ := Aside0.mk (below_step (by repeat ((with_reducible exact HB.out))) hb); clear HO_465001; clear HO_474001; clear BK464; clear BK473; clear HB; have HO_465001 := n0_; have HO_474001 := n1_; have BK464 := n2_; have BK473 := n3_; have HB := n4_; clear n0_ n1_ n2_ n3_ n4_; (try clear hb); skip))
           go_ret
           exact ⟨by rfl, by repeat ((with_reducible exact HB.out))⟩
     ·replace c36 := Bool.eq_false_iff.mpr c36
      subst c36
      have H1 : (some false) = some r := by rw [if_neg (show ¬ (false = true) by decide)] at H; exact H
      clear H
      have H := H1
      clear H1
      obtain rfl := Option.some.inj H
      go_wp2_with (first | ((with_reducible refine gate_callee (f := 23) rfl ?_); refine goesL_ (some 47) rfl rfl Try.func23 (by kernel_rfl) rfl #[.slice A1 l1.length c1] rfl (by (try simp only [List.map_toArray, List.map_cons, List.map_nil]); rfl) ?_; (with_reducible refine (laws_toIntSS.calls kj8 _ _ l1 t475 _ ?side1 ?side2 A34.out).mono ?_); (case side1 => repeat (exact (Kd.C_below HR1.out HB.out))); (case side2 => exact HC1.out); rintro e w114 ⟨v476, rfl, ho0, hb⟩; refine ⟨_, rfl, ?_⟩; obtain ⟨nP990006_, hP990006_⟩ := size_letter hb; have n0_ := Aside0.mk (Kd.S_oldP (Kd.S_told (Kd.S_old (by (with_reducible repeat (apply Kd.S_drew)); exact HO_8.out) hb) (Kd.S_base ho0)) hP990006_); have n1_ := Aside0.mk (Kd.R_below (by (with_reducible repeat (apply Kd.R_drew)); exact HO_465001.out) hb); have n2_ := Aside0.mk (Kd.R_below (by (with_reducible repeat (apply Kd.R_drew)); exact HO_474001.out) hb); have n3_ := Aside0.mk (Kd.S_lower (Kd.S_newP (Kd.S_new' (Kd.S_new' (Kd.S_new' ho0 (Kd.S_lt (by (with_reducible repeat (apply Kd.S_drew)); exact HO_8.out))) (Kd.R_lt (by (with_reducible repeat (apply Kd.R_drew)); exact HO_465001.out))) (Kd.R_lt (by (with_reducible repeat (apply Kd.R_drew)); exact HO_474001.out))) hP990006_) (below_size (by repeat ((with_reducible exact HB.out))))); have n4_ := Aside0.mk (blk_below (g := gb464) (o := .cells #[.int .i64 t459, .slice Ao15 t460.length co15] 28 (0, 0)) (by (with_reducible repeat (refine blk_drew ?_)); exact BK464.out) hb); have n5_ := Aside0.mk (blk_below (g := gb473) (o := .cells #[.int .i64 t468, .slice Ao22 t469.length co22] 28 (0, 0)) (by (with_reducible repeat (refine blk_drew ?_)); exact BK473.out) hb); have n6_ := Aside0.mk (below_step (by repeat ((with_reducible exact HB.out))) hb); clear HO_8; clear HO_465001; clear HO_474001; clear BK464; clear BK473; clear HB; have HO_8 := n0_; have HO_465001 := n1_; have HO_474001 := n2_; have HO477 := n3_; have BK464 := n4_; have BK473 := n5_; have HB := n6_; clear n0_ n1_ n2_ n3_ n4_ n5_ n6_; (try clear hb); (try clear ho0); obtain ⟨Ao115, co115, eo115⟩ := Kd.S_slice HO477.out; subst eo115) | ((with_reducible refine gate_callee (f := 25) rfl ?_); refine goesL_ (some 48) rfl rfl Try.func25 (by kernel_rfl) rfl #[.slice Ao17 t465.length co17, .slice Ao115 t475.length co115] rfl (by (try simp only [List.map_toArray, List.map_cons, List.map_nil]); rfl) ?_; (with_reducible refine (laws_eqIntSS.calls kj8 _ _ t465 _ _ t475 false _ ?side1 ?side2 ?side3 ?side4 A35.out).mono ?_); (case side1 => repeat (exact (Kd.S_reads' HO_8.out).2.2)); (case side2 => exact (Kd.S_reads' HO_8.out).2.1); (case side3 => repeat (exact (Kd.S_reads' HO477.out).2.2)); (case side4 => exact (Kd.S_reads' HO477.out).2.1); rintro e w' ⟨rfl, ⟨nd, rfl⟩⟩; refine ⟨_, rfl, ?_⟩))
      go_ret
      exact ⟨by rfl, by repeat ((with_reducible first | exact HB.out | apply pw_below_drewN))⟩

/-- THE ONE PURE STATEMENT of laws_FnExactEndsSpace. -/
def laws_FnExactEndsSpace.Pure : Prop := ∀ (a0 : Int) (l1 : List (List Int)), (Lit.int .i64 a0).wf = true → l1.length ≤ maxLen → (∀ r ∈ l1, r.length ≤ maxLen ∧ ∀ x ∈ r, (Lit.int .i64 x).wf = true) → ∃ k, laws_FnExactEndsSpace.f k a0 l1 = some true
theorem laws_FnExactEndsSpace.walk (P : laws_FnExactEndsSpace.Pure) (a0 : Int) (A1 : Option Addr) (c1 : Nat) (l1 : List (List Int)) (w : World) (w0 : (Lit.int .i64 a0).wf = true) (hr1 : Kd.C (Kd.slice 3 (Kd.int .i64)) w A1 l1.length l1) (hc1 : l1.length ≤ c1) (hm1 : l1.length ≤ maxLen) (hw1 : ∀ r ∈ l1, r.length ≤ maxLen ∧ ∀ x ∈ r, (Lit.int .i64 x).wf = true) :
  Calls Try.prog 6 #[.int .i64 a0, .slice A1 l1.length c1] w fun e w' => e = .returned (.bool true) ∧ Below w.heap.size w w' := by
 obtain ⟨k, h⟩ := P a0 l1 w0 hm1 hw1
 refine (laws_FnExactEndsSpace.calls k a0 A1 c1 l1 true w hr1 hc1 h).mono ?_
 rintro e w' ⟨rfl, hd⟩
 exact ⟨rfl, hd⟩

/-! ### laws_heldIntSS: function 33 -/
def laws_heldIntSS.l0 : Nat → List (List Int) → Int → Int → Option (Int)
 | 0, _, _, _ => none
 | k + 1, x0, x1, x5 => if x5 < (x0.length : Int) then (if 0 ≤ x5 then ((laws_heldIntS.f k (rd_L2 x0 x5) x1).bind fun t712 => (if t712 < 0 then (some (-1)) else (laws_heldIntSS.l0 k x0 t712 (wrap64 (x5 + 1))))) else (none)) else (some x1)
def laws_heldIntSS.f (k : Nat) (l0 : List (List Int)) (a1 : Int) : Option (Int) := laws_heldIntSS.l0 k l0 a1 0
theorem laws_heldIntSS.mono_l : ∀ k, (∀ y0 y1 y2, LeO (laws_heldIntSS.l0 k y0 y1 y2) (laws_heldIntSS.l0 (k + 1) y0 y1 y2))
 | 0 => fun _ _ _ r h => by simp [laws_heldIntSS.l0] at h
 | k + 1 => by
  have ih0 := laws_heldIntSS.mono_l k
  ·intro y0 y1 y2
   unfold laws_heldIntSS.l0
   repeat' first
   | (with_reducible exact ih0 _ _ _)
   | (with_reducible exact laws_heldIntS.mono _ _ _)
   | (with_reducible exact LeO.refl _)
   | (with_reducible refine LeO.ite ?_ ?_)
   | (with_reducible refine LeO.bind ?_ (fun _ => ?_))
theorem laws_heldIntSS.mono : ∀ a0 a1 k, LeO (laws_heldIntSS.f k a0 a1) (laws_heldIntSS.f (k + 1) a0 a1) := by
 intro a0 a1 k
 have ih0 := laws_heldIntSS.mono_l k
 unfold laws_heldIntSS.f
 repeat' first
   | (with_reducible exact ih0 _ _ _)
set_option maxHeartbeats 8000000 in
set_option maxRecDepth 100000 in
theorem laws_heldIntSS.calls (k : Nat) (A0 : Option Addr) (c0 : Nat) (l0 : List (List Int)) (a1 : Int) (r : Int) (w : World) (hr0 : Kd.C (Kd.slice 3 (Kd.int .i64)) w A0 l0.length l0) (hc0 : l0.length ≤ c0) (h : laws_heldIntSS.f k l0 a1 = some r) :
  Calls Try.prog 33 #[.slice A0 l0.length c0, .int .i64 a1] w fun e w' => e = .returned (.int .i64 r) ∧ Drawn0 w w' := by
 have HR0 := Aside0.mk hr0
 have HC0 := Aside0.mk hc0
 clear hr0 hc0
 have H : (laws_heldIntSS.l0 k l0 a1 0) = some r := h
 clear h
 have H' := Aside0.mk H
 clear H
 go_enter Try.func33, Try.ntmps33
 go_wp2
 go_loopg [1, 5] k (fun kq v1 v5 w' => ∃ (x1_1 : Int) (x5_1 : Int), v1 = .int .i64 x1_1 ∧ v5 = .int .i64 x5_1 ∧ Aside0 (laws_heldIntSS.l0 kq l0 x1_1 x5_1 = some r) ∧ Aside0 (kq ≤ k) ∧ Drawn0 w w')
 case atStart => exact ⟨(a1), (0), (by rfl), (by rfl), H', ⟨Nat.le_refl _⟩, by repeat (exact Drawn0.refl _)⟩
 case round =>
  clear H'
  try clear p2
  obtain ⟨x1_1, x5_1, rfl, rfl, HA, HK1, ⟨m1, rfl⟩⟩ := hrel
  cases gk with
  | zero => exact absurd HA.out (by simp [laws_heldIntSS.l0])
  | succ k1 =>
   have H := HA.out
   clear HA
   simp only [laws_heldIntSS.l0] at H
   by_cases c3 : x5_1 < (l0.length : Int)
   ·rw [if_pos c3] at H
    have c3b0 : decide (x5_1 < (l0.length : Int)) = true := decide_eq_true c3
    clear c3
    by_cases c4 : 0 ≤ x5_1
    ·rw [if_pos c4] at H
     have c4b0 : decide (0 ≤ x5_1) = true := decide_eq_true c4
     clear c4
     replace H := Option.bind_eq_some_iff.mp H
     obtain ⟨t712, A50, H⟩ := H
     replace H : (if t712 < 0 then (some (-1)) else (laws_heldIntSS.l0 k1 l0 t712 (wrap64 (x5_1 + 1)))) = some r := H
     have A5 := Aside0.mk A50
     clear A50
     by_cases c6 : t712 < 0
     ·rw [if_pos c6] at H
      have c6b0 : decide (t712 < 0) = true := decide_eq_true c6
      clear c6
      obtain rfl := Option.some.inj H
      have p711 : 0 ≤ (x5_1 : Int) := of_decide_eq_true (by (with_reducible assumption))
      have q711 : x5_1 < (l0.length : Int) := of_decide_eq_true (by (with_reducible assumption))
      obtain ⟨ad711, A711_0, c711_0, e711, hx711_0, hl711_0, hi711_0⟩ := at_L2 HR0.out x5_1 p711 q711
      cases e711
      have HR711_0 := Aside0.mk hi711_0
      have HC711_0 := Aside0.mk hl711_0
      clear hi711_0 hl711_0
      replace p711 := eq_true p711
      replace q711 := eq_true q711
      go_wp2_with (((with_reducible refine gate_callee (f := 37) rfl ?_); refine goesL_ (some 17) rfl rfl Try.func37 (by kernel_rfl) rfl #[.slice A711_0 (rd_L2 l0 x5_1).length c711_0, .int .i64 x1_1] rfl (by (try simp only [List.map_toArray, List.map_cons, List.map_nil]); rfl) ?_; (with_reducible refine (laws_heldIntS.calls k1 _ _ (rd_L2 l0 x5_1) x1_1 t712 _ ?side1 ?side2 A5.out).mono ?_); (case side1 => repeat (exact HR711_0.out)); (case side2 => exact HC711_0.out); rintro e w' ⟨rfl, ⟨nd, rfl⟩⟩; refine ⟨_, rfl, ?_⟩))
      go_ret
      exact ⟨by rfl, by repeat (first | exact Drawn0.refl _ | apply Drawn0.step)⟩
     ·rw [if_neg c6] at H
      have c6b0 : decide (t712 < 0) = false := decide_eq_false c6
      clear c6
      have H' := Aside0.mk H
      clear H
      have p711 : 0 ≤ (x5_1 : Int) := of_decide_eq_true (by (with_reducible assumption))
      have q711 : x5_1 < (l0.length : Int) := of_decide_eq_true (by (with_reducible assumption))
      obtain ⟨ad711, A711_0, c711_0, e711, hx711_0, hl711_0, hi711_0⟩ := at_L2 HR0.out x5_1 p711 q711
      cases e711
      have HR711_0 := Aside0.mk hi711_0
      have HC711_0 := Aside0.mk hl711_0
      clear hi711_0 hl711_0
      replace p711 := eq_true p711
      replace q711 := eq_true q711
      go_wp2_with (((with_reducible refine gate_callee (f := 37) rfl ?_); refine goesL_ (some 17) rfl rfl Try.func37 (by kernel_rfl) rfl #[.slice A711_0 (rd_L2 l0 x5_1).length c711_0, .int .i64 x1_1] rfl (by (try simp only [List.map_toArray, List.map_cons, List.map_nil]); rfl) ?_; (with_reducible refine (laws_heldIntS.calls k1 _ _ (rd_L2 l0 x5_1) x1_1 t712 _ ?side1 ?side2 A5.out).mono ?_); (case side1 => repeat (exact HR711_0.out)); (case side2 => exact HC711_0.out); rintro e w' ⟨rfl, ⟨nd, rfl⟩⟩; refine ⟨_, rfl, ?_⟩))
      go_roundg k1
      case measure => have := HK1.out; omega
      case rel => exact ⟨(t712), (wrap64 (x5_1 + 1)), (by rfl), (by rfl), H', ⟨by have := HK1.out; omega⟩, by repeat (first | exact Drawn0.refl _ | apply Drawn0.step)⟩
    ·rw [if_neg c4] at H
     exact absurd H (by simp)
   ·rw [if_neg c3] at H
    have c3b0 : decide (x5_1 < (l0.length : Int)) = false := decide_eq_false c3
    clear c3
    obtain rfl := Option.some.inj H
    go_wp2
    go_ret
    exact ⟨by rfl, by repeat (first | exact Drawn0.refl _ | apply Drawn0.step)⟩

end Go.Proofs.Ytekllaaohagefaa.P
