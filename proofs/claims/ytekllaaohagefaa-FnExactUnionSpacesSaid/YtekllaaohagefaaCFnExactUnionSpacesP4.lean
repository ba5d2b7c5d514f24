/- Functions of the program as plain Lean functions, each with a proof that the Go code computes it; written by a program of this session. Conditions: as each theorem states. -/
import Derived.Test.YtekllaaohagefaaCFnExactUnionSpacesP3
namespace Go.Proofs.Ytekllaaohagefaa.P
open Go.RowKit Go.Proofs.YtekllaaohagefaaW.PrintWords Go.Proofs.YtekllaaohagefaaW.PrintLast Go.Proofs.YtekllaaohagefaaW.PrintMore
attribute [local go_sem] max2_int min2_int max_two min_two max_three min_three max_four min_four   -- for this text's walks alone
set_option linter.unusedVariables false
set_option linter.unusedSimpArgs false

/-! ### laws_FnExactUnionSpaces_r31: function 7 -/
set_option maxHeartbeats 8000000 in
set_option maxRecDepth 100000 in
theorem laws_FnExactUnionSpaces.r31 (a0_0 : Int) (A0_1 : Option Go.Addr) (c0_1 : Nat) (l0_1 : List Int) (a1_0 : Int) (A1_1 : Option Go.Addr) (c1_1 : Nat) (l1_1 : List Int) (w : Go.World) (HR0_1 : Go.Proofs.YtekllaaohagefaaW.PrintWords.Aside0
  ((Go.Proofs.YtekllaaohagefaaW.PrintWords.Kd.int Go.IntKind.i64).C w A0_1 l0_1.length l0_1)) (HC0_1 : Go.Proofs.YtekllaaohagefaaW.PrintWords.Aside0 (l0_1.length ≤ c0_1)) (HR1_1 : Go.Proofs.YtekllaaohagefaaW.PrintWords.Aside0
  ((Go.Proofs.YtekllaaohagefaaW.PrintWords.Kd.int Go.IntKind.i64).C w A1_1 l1_1.length l1_1)) (HC1_1 : Go.Proofs.YtekllaaohagefaaW.PrintWords.Aside0 (l1_1.length ≤ c1_1)) (t591 : Int) (t600 : Int) (t601 : List Int) (t604 : Bool) (t606 : Int) (t611 : Int) (t616 : Int) (t617 : List Int) (t620 : Bool) (gb588 : Nat) (GE588 : Go.Proofs.YtekllaaohagefaaW.PrintWords.Aside0 (w.heap.size ≤ gb588)) (gb589 : Nat) (GE589 : Go.Proofs.YtekllaaohagefaaW.PrintWords.Aside0 (w.heap.size ≤ gb589)) (gb605 : Nat) (GE605 : Go.Proofs.YtekllaaohagefaaW.PrintWords.Aside0 (w.heap.size ≤ gb605)) (Ao42 : Option Go.Addr) (co42 : Nat) (gb610 : Nat) (GE610 : Go.Proofs.YtekllaaohagefaaW.PrintWords.Aside0 (w.heap.size ≤ gb610)) (Ao53 : Option Go.Addr) (co53 : Nat) (gb615 : Nat) (GE615 : Go.Proofs.YtekllaaohagefaaW.PrintWords.Aside0 (w.heap.size ≤ gb615)) (Ao63 : Option Go.Addr) (co63 : Nat) (gb621 : Nat) (GE621 : Go.Proofs.YtekllaaohagefaaW.PrintWords.Aside0 (w.heap.size ≤ gb621)) (Ao73 : Option Go.Addr) (co73 : Nat) (t634 : List Int) (t635 : Int) (t636 : List Int) (u17 : Go.Value) (u18 : Go.Value) (u19 : Go.Value) (u20 : Go.Value) (u21 : Go.Value) (u22 : Go.Value) (u23 : Go.Value) (u24 : Go.Value) (u25 : Go.Value) (u26 : Go.Value) (u27 : Go.Value) (u28 : Go.Value) (u29 : Go.Value) (u30 : Go.Value) (u31 : Go.Value) (u32 : Go.Value) (u33 : Go.Value) (u34 : Go.Value) (u35 : Go.Value) (u36 : Go.Value) (u37 : Go.Value) (u38 : Go.Value) (u39 : Go.Value) (u40 : Go.Value) (u41 : Go.Value) (u42 : Go.Value) (u43 : Go.Value) (u44 : Go.Value) (u45 : Go.Value) (u46 : Go.Value) (u47 : Go.Value) (u48 : Go.Value) (u49 : Go.Value) (u50 : Go.Value) (u51 : Go.Value) (u52 : Go.Value) (u53 : Go.Value) (u54 : Go.Value) (u55 : Go.Value) (u56 : Go.Value) (u57 : Go.Value) (u58 : Go.Value) (u59 : Go.Value) (u60 : Go.Value) (u61 : Go.Value) (u62 : Go.Value) (u63 : Go.Value) (u64 : Go.Value) (u65 : Go.Value) (u66 : Go.Value) (u67 : Go.Value) (u68 : Go.Value) (u69 : Go.Value) (u70 : Go.Value) (u71 : Go.Value) (u72 : Go.Value) (u73 : Go.Value) (u74 : Go.Value) (u75 : Go.Value) (u76 : Go.Value) (u77 : Go.Value) (u78 : Go.Value) (u79 : Go.Value) (u80 : Go.Value) (u81 : Go.Value) (u94 : Go.Value) (u96 : Go.Value) (u98 : Go.Value) (u99 : Go.Value) (u100 : Go.Value) (u101 : Go.Value) (u102 : Go.Value) (u103 : Go.Value) (u104 : Go.Value) (u105 : Go.Value) (u106 : Go.Value) (u107 : Go.Value) (u108 : Go.Value) (u109 : Go.Value) (u110 : Go.Value) (u111 : Go.Value) (u112 : Go.Value) (u113 : Go.Value) (u114 : Go.Value) (u115 : Go.Value) (u116 : Go.Value) (u117 : Go.Value) (u118 : Go.Value) (kj108 : Nat) (t638 : Int) (t639 : List Int) (t640 : Int) (t641 : Int) (t642 : List Int) (A172 : Go.Proofs.YtekllaaohagefaaW.PrintWords.Aside0
  (Go.Proofs.Ytekllaaohagefaa.P.laws_toSpace.f kj108 a0_0 l0_1 = Option.some (t641, t642))) (t645 : Int) (t646 : List Int) (A173 : Go.Proofs.YtekllaaohagefaaW.PrintWords.Aside0
  (Go.Proofs.Ytekllaaohagefaa.P.laws_toSpace.f kj108 a1_0 l1_1 = Option.some (t645, t646))) (t649 : Int) (t650 : List Int) (t653 : Bool) (A174 : Go.Proofs.YtekllaaohagefaaW.PrintWords.Aside0
  (Go.Proofs.Ytekllaaohagefaa.P.impl_UnionSpaces.f kj108 t641 t642 t645 t646 = Option.some (t649, t650, t653))) (HT_ : Go.Proofs.YtekllaaohagefaaW.PrintWords.Aside0
  (Go.Proofs.YtekllaaohagefaaW.PrintLast.rtab Go.Region.Mode.any
    (opsOf Try.f7 31) =
   Go.Proofs.Ytekllaaohagefaa.P.laws_FnExactUnionSpaces.T31)) (w185 : Go.World) (HO_606001 : Go.Proofs.YtekllaaohagefaaW.PrintWords.Aside0
  ((Go.Proofs.YtekllaaohagefaaW.PrintWords.Kd.int Go.IntKind.i64).R 3 w185 w.heap.size
   (fun k_ =>
    Option.some k_ ≠ (Go.Value.slice Ao53 t634.length co53).ownBlock ∧
     Option.some k_ ≠ (Go.Value.slice Ao63 t636.length co63).ownBlock ∧
      Option.some k_ ≠ (Go.Value.slice Ao73 t617.length co73).ownBlock)
   (Go.Value.slice Ao42 t601.length co42) t601)) (HO_611001 : Go.Proofs.YtekllaaohagefaaW.PrintWords.Aside0
  ((Go.Proofs.YtekllaaohagefaaW.PrintWords.Kd.int Go.IntKind.i64).R 3 w185 w.heap.size
   (fun k_ =>
    Option.some k_ ≠ (Go.Value.slice Ao42 t601.length co42).ownBlock ∧
     Option.some k_ ≠ (Go.Value.slice Ao63 t636.length co63).ownBlock ∧
      Option.some k_ ≠ (Go.Value.slice Ao73 t617.length co73).ownBlock)
   (Go.Value.slice Ao53 t634.length co53) t634)) (HO_616001 : Go.Proofs.YtekllaaohagefaaW.PrintWords.Aside0
  ((Go.Proofs.YtekllaaohagefaaW.PrintWords.Kd.int Go.IntKind.i64).R 3 w185 w.heap.size
   (fun k_ =>
    Option.some k_ ≠ (Go.Value.slice Ao42 t601.length co42).ownBlock ∧
     Option.some k_ ≠ (Go.Value.slice Ao53 t634.length co53).ownBlock ∧
      Option.some k_ ≠ (Go.Value.slice Ao73 t617.length co73).ownBlock)
   (Go.Value.slice Ao63 t636.length co63) t636)) (HO_622001 : Go.Proofs.YtekllaaohagefaaW.PrintWords.Aside0
  ((Go.Proofs.YtekllaaohagefaaW.PrintWords.Kd.int Go.IntKind.i64).R 3 w185 w.heap.size
   (fun k_ =>
    Option.some k_ ≠ (Go.Value.slice Ao42 t601.length co42).ownBlock ∧
     Option.some k_ ≠ (Go.Value.slice Ao53 t634.length co53).ownBlock ∧
      Option.some k_ ≠ (Go.Value.slice Ao63 t636.length co63).ownBlock)
   (Go.Value.slice Ao73 t617.length co73) t639)) (BK588 : Go.Proofs.YtekllaaohagefaaW.PrintWords.Aside0
  (w185.heap[gb588]? =
   Option.some (Go.Obj.cells #[Go.Value.int Go.IntKind.i64 a0_0, Go.Value.slice A0_1 l0_1.length c0_1] 24))) (BK589 : Go.Proofs.YtekllaaohagefaaW.PrintWords.Aside0
  (w185.heap[gb589]? =
   Option.some (Go.Obj.cells #[Go.Value.int Go.IntKind.i64 a1_0, Go.Value.slice A1_1 l1_1.length c1_1] 24))) (BK605 : Go.Proofs.YtekllaaohagefaaW.PrintWords.Aside0
  (w185.heap[gb605]? =
   Option.some (Go.Obj.cells #[Go.Value.int Go.IntKind.i64 t600, Go.Value.slice Ao42 t601.length co42] 28))) (BK610 : Go.Proofs.YtekllaaohagefaaW.PrintWords.Aside0
  (w185.heap[gb610]? =
   Option.some (Go.Obj.cells #[Go.Value.int Go.IntKind.i64 t606, Go.Value.slice Ao53 t634.length co53] 28))) (BK615 : Go.Proofs.YtekllaaohagefaaW.PrintWords.Aside0
  (w185.heap[gb615]? =
   Option.some (Go.Obj.cells #[Go.Value.int Go.IntKind.i64 t611, Go.Value.slice Ao63 t636.length co63] 28))) (BK621 : Go.Proofs.YtekllaaohagefaaW.PrintWords.Aside0
  (w185.heap[gb621]? =
   Option.some (Go.Obj.cells #[Go.Value.int Go.IntKind.i64 t616, Go.Value.slice Ao73 t617.length co73] 28))) (HB : Go.Proofs.YtekllaaohagefaaW.PrintWords.Aside0 (Go.RowKit.Below w.heap.size w w185)) (hHeld : w185.cell? { block := gb588, off := 0 } = Option.some (Go.Value.int Go.IntKind.i64 a0_0) ∧
  w185.cell? { block := gb588, off := 1 } = Option.some (Go.Value.slice A0_1 l0_1.length c0_1) ∧
   w185.cell? { block := gb589, off := 0 } = Option.some (Go.Value.int Go.IntKind.i64 a1_0) ∧
    w185.cell? { block := gb589, off := 1 } = Option.some (Go.Value.slice A1_1 l1_1.length c1_1)) (K0_ : Act → World → Prop) (R_ : Ending → World → Prop) :
  (∀ (s : Go.Value × Go.Value × Go.Value × Nat) (w' : Go.World),
   (w'.cell? { block := gb588, off := 0 } = Option.some (Go.Value.int Go.IntKind.i64 a0_0) ∧
      w'.cell? { block := gb588, off := 1 } = Option.some (Go.Value.slice A0_1 l0_1.length c0_1) ∧
       w'.cell? { block := gb589, off := 0 } = Option.some (Go.Value.int Go.IntKind.i64 a1_0) ∧
        w'.cell? { block := gb589, off := 1 } = Option.some (Go.Value.slice A1_1 l1_1.length c1_1)) ∧
     (Go.Proofs.YtekllaaohagefaaW.PrintWords.Kd.int Go.IntKind.i64).R 3 w' w.heap.size
       (fun k_ =>
        Option.some k_ ≠ s.snd.fst.ownBlock ∧
         Option.some k_ ≠ s.snd.snd.fst.ownBlock ∧
          Option.some k_ ≠ (Go.Value.slice Ao42 t601.length co42).ownBlock ∧
           Option.some k_ ≠ (Go.Value.slice Ao53 t634.length co53).ownBlock ∧
            Option.some k_ ≠ (Go.Value.slice Ao63 t636.length co63).ownBlock ∧
             Option.some k_ ≠ (Go.Value.slice Ao73 t617.length co73).ownBlock)
       s.fst t642 ∧
      (Go.Proofs.YtekllaaohagefaaW.PrintWords.Kd.int Go.IntKind.i64).R 3 w' w.heap.size
        (fun k_ =>
         Option.some k_ ≠ s.fst.ownBlock ∧
          Option.some k_ ≠ s.snd.snd.fst.ownBlock ∧
           Option.some k_ ≠ (Go.Value.slice Ao42 t601.length co42).ownBlock ∧
            Option.some k_ ≠ (Go.Value.slice Ao53 t634.length co53).ownBlock ∧
             Option.some k_ ≠ (Go.Value.slice Ao63 t636.length co63).ownBlock ∧
              Option.some k_ ≠ (Go.Value.slice Ao73 t617.length co73).ownBlock)
        s.snd.fst t646 ∧
       (Go.Proofs.YtekllaaohagefaaW.PrintWords.Kd.int Go.IntKind.i64).R 3 w' w.heap.size
         (fun k_ =>
          Option.some k_ ≠ s.fst.ownBlock ∧
           Option.some k_ ≠ s.snd.fst.ownBlock ∧
            Option.some k_ ≠ (Go.Value.slice Ao42 t601.length co42).ownBlock ∧
             Option.some k_ ≠ (Go.Value.slice Ao53 t634.length co53).ownBlock ∧
              Option.some k_ ≠ (Go.Value.slice Ao63 t636.length co63).ownBlock ∧
               Option.some k_ ≠ (Go.Value.slice Ao73 t617.length co73).ownBlock)
         s.snd.snd.fst t650 ∧
        (Go.Proofs.YtekllaaohagefaaW.PrintWords.Kd.int Go.IntKind.i64).R 3 w' w.heap.size
          (fun k_ =>
           Option.some k_ ≠ s.fst.ownBlock ∧
            Option.some k_ ≠ s.snd.fst.ownBlock ∧
             Option.some k_ ≠ s.snd.snd.fst.ownBlock ∧
              Option.some k_ ≠ (Go.Value.slice Ao53 t634.length co53).ownBlock ∧
               Option.some k_ ≠ (Go.Value.slice Ao63 t636.length co63).ownBlock ∧
                Option.some k_ ≠ (Go.Value.slice Ao73 t617.length co73).ownBlock)
          (Go.Value.slice Ao42 t601.length co42) t601 ∧
         (Go.Proofs.YtekllaaohagefaaW.PrintWords.Kd.int Go.IntKind.i64).R 3 w' w.heap.size
           (fun k_ =>
            Option.some k_ ≠ s.fst.ownBlock ∧
             Option.some k_ ≠ s.snd.fst.ownBlock ∧
              Option.some k_ ≠ s.snd.snd.fst.ownBlock ∧
               Option.some k_ ≠ (Go.Value.slice Ao42 t601.length co42).ownBlock ∧
                Option.some k_ ≠ (Go.Value.slice Ao63 t636.length co63).ownBlock ∧
                 Option.some k_ ≠ (Go.Value.slice Ao73 t617.length co73).ownBlock)
           (Go.Value.slice Ao53 t634.length co53) t634 ∧
          (Go.Proofs.YtekllaaohagefaaW.PrintWords.Kd.int Go.IntKind.i64).R 3 w' w.heap.size
            (fun k_ =>
             Option.some k_ ≠ s.fst.ownBlock ∧
              Option.some k_ ≠ s.snd.fst.ownBlock ∧
               Option.some k_ ≠ s.snd.snd.fst.ownBlock ∧
                Option.some k_ ≠ (Go.Value.slice Ao42 t601.length co42).ownBlock ∧
                 Option.some k_ ≠ (Go.Value.slice Ao53 t634.length co53).ownBlock ∧
                  Option.some k_ ≠ (Go.Value.slice Ao73 t617.length co73).ownBlock)
            (Go.Value.slice Ao63 t636.length co63) t636 ∧
           (Go.Proofs.YtekllaaohagefaaW.PrintWords.Kd.int Go.IntKind.i64).R 3 w' w.heap.size
             (fun k_ =>
              Option.some k_ ≠ s.fst.ownBlock ∧
               Option.some k_ ≠ s.snd.fst.ownBlock ∧
                Option.some k_ ≠ s.snd.snd.fst.ownBlock ∧
                 Option.some k_ ≠ (Go.Value.slice Ao42 t601.length co42).ownBlock ∧
                  Option.some k_ ≠ (Go.Value.slice Ao53 t634.length co53).ownBlock ∧
                   Option.some k_ ≠ (Go.Value.slice Ao63 t636.length co63).ownBlock)
             (Go.Value.slice Ao73 t617.length co73) t639 ∧
            w'.heap[gb588]? =
              Option.some
               (Go.Obj.cells #[Go.Value.int Go.IntKind.i64 a0_0, Go.Value.slice A0_1 l0_1.length c0_1]
                24) ∧
             w'.heap[gb589]? =
               Option.some
                (Go.Obj.cells #[Go.Value.int Go.IntKind.i64 a1_0, Go.Value.slice A1_1 l1_1.length c1_1]
                 24) ∧
              w'.heap[gb605]? =
                Option.some
                 (Go.Obj.cells
                  #[Go.Value.int Go.IntKind.i64 t600, Go.Value.slice Ao42 t601.length co42] 28) ∧
               w'.heap[gb610]? =
                 Option.some
                  (Go.Obj.cells
                   #[Go.Value.int Go.IntKind.i64 t606, Go.Value.slice Ao53 t634.length co53] 28) ∧
                w'.heap[gb615]? =
                  Option.some
                   (Go.Obj.cells
                    #[Go.Value.int Go.IntKind.i64 t611, Go.Value.slice Ao63 t636.length co63] 28) ∧
                 w'.heap[gb621]? =
                   Option.some
                    (Go.Obj.cells
                     #[Go.Value.int Go.IntKind.i64 t616, Go.Value.slice Ao73 t617.length co73]
                     28) ∧
                  w'.heap[s.snd.snd.snd]? =
                    Option.some
                     (Go.Obj.cells #[Go.Value.int Go.IntKind.i64 0, Go.Value.slice Option.none 0 0]
                      28) ∧
                   w.heap.size ≤ s.snd.snd.snd ∧
                    w.heap.size ≤ s.snd.snd.snd ∧
                     gb588 ≠ s.snd.snd.snd ∧
                      s.snd.snd.snd ≠ gb588 ∧
                       gb589 ≠ s.snd.snd.snd ∧
                        s.snd.snd.snd ≠ gb589 ∧
                         gb605 ≠ s.snd.snd.snd ∧
                          s.snd.snd.snd ≠ gb605 ∧
                           gb610 ≠ s.snd.snd.snd ∧
                            s.snd.snd.snd ≠ gb610 ∧
                             gb615 ≠ s.snd.snd.snd ∧
                              s.snd.snd.snd ≠ gb615 ∧
                               gb621 ≠ s.snd.snd.snd ∧
                                s.snd.snd.snd ≠ gb621 ∧
                                 Go.RowKit.Below w.heap.size w w' →
    Go.Proofs.YtekllaaohagefaaW.PrintLast.wpAnyLast Go.Proofs.Try.prog Go.Region.Mode.any
     (opsOf Try.f7 31)
     (Go.Exit.then K0_ (bodyPost Try.prog Try.f7 R_))
     (fun w' =>
      w'.cell? { block := gb588, off := 0 } = Option.some (Go.Value.int Go.IntKind.i64 a0_0) ∧
       w'.cell? { block := gb588, off := 1 } = Option.some (Go.Value.slice A0_1 l0_1.length c0_1) ∧
        w'.cell? { block := gb589, off := 0 } = Option.some (Go.Value.int Go.IntKind.i64 a1_0) ∧
         w'.cell? { block := gb589, off := 1 } = Option.some (Go.Value.slice A1_1 l1_1.length c1_1))
     [] 2
     #[Bool.true, Bool.true, Bool.true, Bool.true, Bool.true, Bool.true, Bool.true, Bool.true, Bool.true,
      Bool.false, Bool.false]
     (Go.Proofs.YtekllaaohagefaaW.PrintLast.putAll
      {
       tmps :=
        #[Go.Value.agg #[Go.Value.int Go.IntKind.i64 a0_0, Go.Value.slice A0_1 l0_1.length c0_1],
         Go.Value.agg #[Go.Value.int Go.IntKind.i64 a1_0, Go.Value.slice A1_1 l1_1.length c1_1],
         Go.Value.pointer (Option.some { block := gb588, off := 0 }),
         Go.Value.pointer (Option.some { block := gb589, off := 0 }), Go.Value.bool Bool.false,
         Go.Value.int Go.IntKind.i64 t591, Go.Value.pointer (Option.some { block := gb605, off := 0 }),
         Go.Value.bool t604, Go.Value.pointer (Option.some { block := gb610, off := 0 }),
         Go.Value.pointer (Option.some { block := gb615, off := 0 }),
         Go.Value.pointer (Option.some { block := gb621, off := 0 }), Go.Value.bool t620,
         Go.Value.int Go.IntKind.i64 t635, Go.Value.int Go.IntKind.i64 t638, Go.Value.int Go.IntKind.i64 t640,
         Go.undef, Go.undef, u17, u18, u19, u20, u21, u22, u23, u24, u25, u26, u27, u28, u29, u30, u31, u32,
         u33, u34, u35, u36, u37, u38, u39, u40, u41, u42, u43, u44, u45, u46, u47, u48, u49, u50, u51, u52,
         u53, u54, u55, u56, u57, u58, u59, u60, u61, u62, u63, u64, u65, u66, u67, u68, u69, u70, u71, u72,
         u73, u74, u75, u76, u77, u78, u79, u80, u81, Go.Value.bool Bool.false,
         Go.Value.agg #[Go.Value.int Go.IntKind.i64 t616, Go.Value.slice Ao73 t617.length co73],
         Go.Value.int Go.IntKind.i64 1, Go.Value.int Go.IntKind.i64 t638,
         Go.Value.agg #[Go.Value.int Go.IntKind.i64 t616, Go.Value.slice Ao73 t617.length co73],
         Go.Value.int Go.IntKind.i64 1, Go.Value.int Go.IntKind.i64 t640, Go.Value.int Go.IntKind.i64 t640,
         Go.Value.bool Bool.false, Go.Value.int Go.IntKind.i64 t640, Go.Value.int Go.IntKind.i64 t638,
         Go.Value.bool Bool.false, u94,
         Go.Value.agg #[Go.Value.int Go.IntKind.i64 a0_0, Go.Value.slice A0_1 l0_1.length c0_1], u96,
         Go.Value.agg #[Go.Value.int Go.IntKind.i64 a1_0, Go.Value.slice A1_1 l1_1.length c1_1], u98, u99,
         u100, u101, u102, u103, u104, u105, u106, u107, u108, u109, u110, u111, u112, u113, u114, u115, u116,
         u117, u118],
       defers := [] }
      [(96, Go.Value.agg #[Go.Value.int Go.IntKind.i64 t641, s.fst]),
       (98, Go.Value.agg #[Go.Value.int Go.IntKind.i64 t645, s.snd.fst]),
       (99,
        Go.Value.tuple #[Go.Value.agg #[Go.Value.int Go.IntKind.i64 t649, s.snd.snd.fst], Go.Value.bool t653]),
       (15, Go.Value.pointer (Option.some { block := s.snd.snd.snd, off := 0 })),
       (94,
        Go.Value.tuple #[Go.Value.agg #[Go.Value.int Go.IntKind.i64 t649, s.snd.snd.fst], Go.Value.bool t653]),
       (100, Go.Value.agg #[Go.Value.int Go.IntKind.i64 t649, s.snd.snd.fst]), (101, Go.Value.bool t653)])
     w') →
  Go.Proofs.YtekllaaohagefaaW.PrintLast.wpAnyLast Go.Proofs.Try.prog Go.Region.Mode.any
   (opsOf Try.f7 31)
   (Go.Exit.then K0_ (bodyPost Try.prog Try.f7 R_))
   (fun w' =>
    w'.cell? { block := gb588, off := 0 } = Option.some (Go.Value.int Go.IntKind.i64 a0_0) ∧
     w'.cell? { block := gb588, off := 1 } = Option.some (Go.Value.slice A0_1 l0_1.length c0_1) ∧
      w'.cell? { block := gb589, off := 0 } = Option.some (Go.Value.int Go.IntKind.i64 a1_0) ∧
       w'.cell? { block := gb589, off := 1 } = Option.some (Go.Value.slice A1_1 l1_1.length c1_1))
   [] 9
   #[Bool.true, Bool.false, Bool.true, Bool.false, Bool.false, Bool.false, Bool.false, Bool.false, Bool.false,
    Bool.false, Bool.false]
   {
    tmps :=
     #[Go.Value.agg #[Go.Value.int Go.IntKind.i64 a0_0, Go.Value.slice A0_1 l0_1.length c0_1],
      Go.Value.agg #[Go.Value.int Go.IntKind.i64 a1_0, Go.Value.slice A1_1 l1_1.length c1_1],
      Go.Value.pointer (Option.some { block := gb588, off := 0 }),
      Go.Value.pointer (Option.some { block := gb589, off := 0 }), Go.Value.bool Bool.false,
      Go.Value.int Go.IntKind.i64 t591, Go.Value.pointer (Option.some { block := gb605, off := 0 }),
      Go.Value.bool t604, Go.Value.pointer (Option.some { block := gb610, off := 0 }),
      Go.Value.pointer (Option.some { block := gb615, off := 0 }),
      Go.Value.pointer (Option.some { block := gb621, off := 0 }), Go.Value.bool t620,
      Go.Value.int Go.IntKind.i64 t635, Go.Value.int Go.IntKind.i64 t638, Go.Value.int Go.IntKind.i64 t640,
      Go.undef, Go.undef, u17, u18, u19, u20, u21, u22, u23, u24, u25, u26, u27, u28, u29, u30, u31, u32, u33,
      u34, u35, u36, u37, u38, u39, u40, u41, u42, u43, u44, u45, u46, u47, u48, u49, u50, u51, u52, u53, u54,
      u55, u56, u57, u58, u59, u60, u61, u62, u63, u64, u65, u66, u67, u68, u69, u70, u71, u72, u73, u74, u75,
      u76, u77, u78, u79, u80, u81, Go.Value.bool Bool.false,
      Go.Value.agg #[Go.Value.int Go.IntKind.i64 t616, Go.Value.slice Ao73 t617.length co73],
      Go.Value.int Go.IntKind.i64 1, Go.Value.int Go.IntKind.i64 t638,
      Go.Value.agg #[Go.Value.int Go.IntKind.i64 t616, Go.Value.slice Ao73 t617.length co73],
      Go.Value.int Go.IntKind.i64 1, Go.Value.int Go.IntKind.i64 t640, Go.Value.int Go.IntKind.i64 t640,
      Go.Value.bool Bool.false, Go.Value.int Go.IntKind.i64 t640, Go.Value.int Go.IntKind.i64 t638,
      Go.Value.bool Bool.false, u94,
      Go.Value.agg #[Go.Value.int Go.IntKind.i64 a0_0, Go.Value.slice A0_1 l0_1.length c0_1], u96,
      Go.Value.agg #[Go.Value.int Go.IntKind.i64 a1_0, Go.Value.slice A1_1 l1_1.length c1_1], u98, u99, u100,
      u101, u102, u103, u104, u105, u106, u107, u108, u109, u110, u111, u112, u113, u114, u115, u116, u117, u118],
    defers := [] }
   w185 := by
 generalize hops_ : opsOf Try.f7 31 = ops_ at HT_ ⊢
 conv at hops_ => lhs; whnf
 subst hops_
 intro hCont
 refine two_ (i := 1) (j := 8) (Ni := some 96) (Nj := some 15) #[true, true, true, false, false, false, false, false, false, false, false] #[true, false, true, false, false, false, false, false, true, false, false] rfl rfl rfl rfl (two_of HT_.out (by kernel_rfl)) (by decide) (by decide) (fun K hK => ?_) (fun K hK => ?_)
 ·skip
  refine goes_ Try.func12 (by kernel_rfl) rfl #[.agg #[.int .i64 a0_0, .slice A0_1 l0_1.length c0_1]] (by rfl) rfl rfl (by (try simp only [List.map_toArray, List.map_cons, List.map_nil]); rfl) ?_
  with_reducible refine (laws_toSpace.calls kj108 a0_0 _ _ l0_1 t641 t642 _ ?side1 ?side2 A172.out).mono ?_
  (case side1 => repeat (exact (Kd.C_below HR0_1.out HB.out)))
  (case side2 => exact HC0_1.out)
  rintro e w186 ⟨v643, rfl, ho0, hb⟩
  refine ⟨_, rfl, ?_⟩
  have n0_ := Aside0.mk (Kd.R_elder' (by (with_reducible repeat (apply Kd.R_drew)); exact HO_606001.out) (Kd.R_base ho0) hb)
  have n1_ := Aside0.mk (Kd.R_elder' (by (with_reducible repeat (apply Kd.R_drew)); exact HO_611001.out) (Kd.R_base ho0) hb)
  have n2_ := Aside0.mk (Kd.R_elder' (by (with_reducible repeat (apply Kd.R_drew)); exact HO_616001.out) (Kd.R_base ho0) hb)
  have n3_ := Aside0.mk (Kd.R_elder' (by (with_reducible repeat (apply Kd.R_drew)); exact HO_622001.out) (Kd.R_base ho0) hb)
  have n4_ := Aside0.mk (Kd.R_lower (Kd.R_new' (Kd.R_new' (Kd.R_new' (Kd.R_new' ho0 (Kd.R_lt (by (with_reducible repeat (apply Kd.R_drew)); exact HO_606001.out))) (Kd.R_lt (by (with_reducible repeat (apply Kd.R_drew)); exact HO_611001.out))) (Kd.R_lt (by (with_reducible repeat (apply Kd.R_drew)); exact HO_616001.out))) (Kd.R_lt (by (with_reducible repeat (apply Kd.R_drew)); exact HO_622001.out))) (below_size (by repeat ((with_reducible exact HB.out)))))
  have n5_ := Aside0.mk (blk_below (g := gb588) (o := .cells #[.int .i64 a0_0, .slice A0_1 l0_1.length c0_1] 24 (0, 0)) (by (with_reducible repeat (refine blk_drew ?_)); exact BK588.out) hb)
  have n6_ := Aside0.mk (blk_below (g := gb589) (o := .cells #[.int .i64 a1_0, .slice A1_1 l1_1.length c1_1] 24 (0, 0)) (by (with_reducible repeat (refine blk_drew ?_)); exact BK589.out) hb)
  have n7_ := Aside0.mk (blk_below (g := gb605) (o := .cells #[.int .i64 t600, .slice Ao42 t601.length co42] 28 (0, 0)) (by (with_reducible repeat (refine blk_drew ?_)); exact BK605.out) hb)
  have n8_ := Aside0.mk (blk_below (g := gb610) (o := .cells #[.int .i64 t606, .slice Ao53 t634.length co53] 28 (0, 0)) (by (with_reducible repeat (refine blk_drew ?_)); exact BK610.out) hb)
  have n9_ := Aside0.mk (blk_below (g := gb615) (o := .cells #[.int .i64 t611, .slice Ao63 t636.length co63] 28 (0, 0)) (by (with_reducible repeat (refine blk_drew ?_)); exact BK615.out) hb)
  have n10_ := Aside0.mk (blk_below (g := gb621) (o := .cells #[.int .i64 t616, .slice Ao73 t617.length co73] 28 (0, 0)) (by (with_reducible repeat (refine blk_drew ?_)); exact BK621.out) hb)
  have n11_ := Aside0.mk (below_step (by repeat ((with_reducible exact HB.out))) hb)
  clear HO_606001
  clear HO_611001
  clear HO_616001
  clear HO_622001
  clear BK588
  clear BK589
  clear BK605
  clear BK610
  clear BK615
  clear BK621
  clear HB
  have HO_606001 := n0_
  have HO_611001 := n1_
  have HO_616001 := n2_
  have HO_622001 := n3_
  have HO644 := n4_
  have BK588 := n5_
  have BK589 := n6_
  have BK605 := n7_
  have BK610 := n8_
  have BK615 := n9_
  have BK621 := n10_
  have HB := n11_
  clear n0_ n1_ n2_ n3_ n4_ n5_ n6_ n7_ n8_ n9_ n10_ n11_
  (try clear hb)
  skip
  skip
  skip
  (try clear ho0)
  refine hK.out _ _ ⟨(blk_cell BK588.out 0).trans rfl, (blk_cell BK588.out 1).trans rfl, (blk_cell BK589.out 0).trans rfl, (blk_cell BK589.out 1).trans rfl⟩ (fun hHeld => ?_)
  clear hK K
  refine norm_ (a' := ?_) ?_ ?_
  rotate_left
  ·show Act.put _ (some 96) _ = _
   simp only [Act.put, List.setIfInBounds_toArray, List.set_cons_zero, List.set_cons_succ, i64_w, i32_w]
   rfl
  refine two_ (i := 3) (j := 8) (Ni := some 98) (Nj := some 15) #[true, true, true, true, false, false, false, false, false, false, false] #[true, true, true, false, false, false, false, false, true, false, false] rfl rfl rfl rfl (two_of HT_.out (by kernel_rfl)) (by decide) (by decide) (fun K hK => ?_) (fun K hK => ?_)
  ·skip
   refine goes_ Try.func12 (by kernel_rfl) rfl #[.agg #[.int .i64 a1_0, .slice A1_1 l1_1.length c1_1]] (by rfl) rfl rfl (by (try simp only [List.map_toArray, List.map_cons, List.map_nil]); rfl) ?_
   with_reducible refine (laws_toSpace.calls kj108 a1_0 _ _ l1_1 t645 t646 _ ?side1 ?side2 A173.out).mono ?_
   (case side1 => repeat (exact (Kd.C_below HR1_1.out HB.out)))
   (case side2 => exact HC1_1.out)
   rintro e w187 ⟨v647, rfl, ho0, hb⟩
   refine ⟨_, rfl, ?_⟩
   have n0_ := Aside0.mk (Kd.R_elder' (by (with_reducible repeat (apply Kd.R_drew)); exact HO_606001.out) (Kd.R_base ho0) hb)
   have n1_ := Aside0.mk (Kd.R_elder' (by (with_reducible repeat (apply Kd.R_drew)); exact HO_611001.out) (Kd.R_base ho0) hb)
   have n2_ := Aside0.mk (Kd.R_elder' (by (with_reducible repeat (apply Kd.R_drew)); exact HO_616001.out) (Kd.R_base ho0) hb)
   have n3_ := Aside0.mk (Kd.R_elder' (by (with_reducible repeat (apply Kd.R_drew)); exact HO_622001.out) (Kd.R_base ho0) hb)
   have n4_ := Aside0.mk (Kd.R_elder' (by (with_reducible repeat (apply Kd.R_drew)); exact HO644.out) (Kd.R_base ho0) hb)
   have n5_ := Aside0.mk (Kd.R_lower (Kd.R_new' (Kd.R_new' (Kd.R_new' (Kd.R_new' (Kd.R_new' ho0 (Kd.R_lt (by (with_reducible repeat (apply Kd.R_drew)); exact HO_606001.out))) (Kd.R_lt (by (with_reducible repeat (apply Kd.R_drew)); exact HO_611001.out))) (Kd.R_lt (by (with_reducible repeat (apply Kd.R_drew)); exact HO_616001.out))) (Kd.R_lt (by (with_reducible repeat (apply Kd.R_drew)); exact HO_622001.out))) (Kd.R_lt (by (with_reducible repeat (apply Kd.R_drew)); exact HO644.out))) (below_size (by repeat ((with_reducible exact HB.out)))))
   have n6_ := Aside0.mk (blk_below (g := gb588) (o := .cells #[.int .i64 a0_0, .slice A0_1 l0_1.length c0_1] 24 (0, 0)) (by (with_reducible repeat (refine blk_drew ?_)); exact BK588.out) hb)
   have n7_ := Aside0.mk (blk_below (g := gb589) (o := .cells #[.int .i64 a1_0, .slice A1_1 l1_1.length c1_1] 24 (0, 0)) (by (with_reducible repeat (refine blk_drew ?_)); exact BK589.out) hb)
   have n8_ := Aside0.mk (blk_below (g := gb605) (o := .cells #[.int .i64 t600, .slice Ao42 t601.length co42] 28 (0, 0)) (by (with_reducible repeat (refine blk_drew ?_)); exact BK605.out) hb)
   have n9_ := Aside0.mk (blk_below (g := gb610) (o := .cells #[.int .i64 t606, .slice Ao53 t634.length co53] 28 (0, 0)) (by (with_reducible repeat (refine blk_drew ?_)); exact BK610.out) hb)
   have n10_ := Aside0.mk (blk_below (g := gb615) (o := .cells #[.int .i64 t611, .slice Ao63 t636.length co63] 28 (0, 0)) (by (with_reducible repeat (refine blk_drew ?_)); exact BK615.out) hb)
   have n11_ := Aside0.mk (blk_below (g := gb621) (o := .cells #[.int .i64 t616, .slice Ao73 t617.length co73] 28 (0, 0)) (by (with_reducible repeat (refine blk_drew ?_)); exact BK621.out) hb)
   have n12_ := Aside0.mk (below_step (by repeat ((with_reducible exact HB.out))) hb)
   clear HO_606001
   clear HO_611001
   clear HO_616001
   clear HO_622001
   clear HO644
   clear BK588
   clear BK589
   clear BK605
   clear BK610
   clear BK615
   clear BK621
   clear HB
   have HO_606001 := n0_
   have HO_611001 := n1_
   have HO_616001 := n2_
   have HO_622001 := n3_
   have HO644 := n4_
   have HO648 := n5_
   have BK588 := n6_
   have BK589 := n7_
   have BK605 := n8_
   have BK610 := n9_
   have BK615 := n10_
   have BK621 := n11_
   have HB := n12_
   clear n0_ n1_ n2_ n3_ n4_ n5_ n6_ n7_ n8_ n9_ n10_ n11_ n12_
   (try clear hb)
   skip
   skip
   skip
   (try clear ho0)
   obtain ⟨Ao188, co188, eo188⟩ := Kd.R_slice HO644.out
   (subst eo188)
   obtain ⟨Ao189, co189, eo189⟩ := Kd.R_slice HO648.out
   (subst eo189)
   refine hK.out _ _ ⟨(blk_cell BK588.out 0).trans rfl, (blk_cell BK588.out 1).trans rfl, (blk_cell BK589.out 0).trans rfl, (blk_cell BK589.out 1).trans rfl⟩ (fun hHeld => ?_)
   clear hK K
   refine norm_ (a' := ?_) ?_ ?_
   rotate_left
   ·show Act.put _ (some 98) _ = _
    simp only [Act.put, List.setIfInBounds_toArray, List.set_cons_zero, List.set_cons_succ, i64_w, i32_w]
    rfl
   refine two_ (i := 4) (j := 8) (Ni := some 99) (Nj := some 15) #[true, true, true, true, true, false, false, false, false, false, false] #[true, true, true, true, false, false, false, false, true, false, false] rfl rfl rfl rfl (two_of HT_.out (by kernel_rfl)) (by decide) (by decide) (fun K hK => ?_) (fun K hK => ?_)
   ·skip
    refine goes_ Try.func30 (by kernel_rfl) rfl #[.agg #[.int .i64 t641, .slice Ao188 t642.length co188], .agg #[.int .i64 t645, .slice Ao189 t646.length co189]] (by rfl) rfl rfl (by (try simp only [List.map_toArray, List.map_cons, List.map_nil]); rfl) ?_
    with_reducible refine (impl_UnionSpaces.calls kj108 t641 _ _ t642 t645 _ _ t646 t649 t650 t653 _ ?side1 ?side2 ?side3 ?side4 A174.out).mono ?_
    (case side1 => repeat (exact (Kd.R_reads' HO644.out).2.2))
    (case side2 => exact (Kd.R_reads' HO644.out).2.1)
    (case side3 => repeat (exact (Kd.R_reads' HO648.out).2.2))
    (case side4 => exact (Kd.R_reads' HO648.out).2.1)
    rintro e w190 ⟨v651, rfl, ho0, hb⟩
    refine ⟨_, rfl, ?_⟩
    have n0_ := Aside0.mk (Kd.R_elder' (by (with_reducible repeat (apply Kd.R_drew)); exact HO_606001.out) (Kd.R_base ho0) hb)
    have n1_ := Aside0.mk (Kd.R_elder' (by (with_reducible repeat (apply Kd.R_drew)); exact HO_611001.out) (Kd.R_base ho0) hb)
    have n2_ := Aside0.mk (Kd.R_elder' (by (with_reducible repeat (apply Kd.R_drew)); exact HO_616001.out) (Kd.R_base ho0) hb)
    have n3_ := Aside0.mk (Kd.R_elder' (by (with_reducible repeat (apply Kd.R_drew)); exact HO_622001.out) (Kd.R_base ho0) hb)
    have n4_ := Aside0.mk (Kd.R_elder' (by (with_reducible repeat (apply Kd.R_drew)); exact HO644.out) (Kd.R_base ho0) hb)
    have n5_ := Aside0.mk (Kd.R_elder' (by (with_reducible repeat (apply Kd.R_drew)); exact HO648.out) (Kd.R_base ho0) hb)
    have n6_ := Aside0.mk (Kd.R_lower (Kd.R_new' (Kd.R_new' (Kd.R_new' (Kd.R_new' (Kd.R_new' (Kd.R_new' ho0 (Kd.R_lt (by (with_reducible repeat (apply Kd.R_drew)); exact HO_606001.out))) (Kd.R_lt (by (with_reducible repeat (apply Kd.R_drew)); exact HO_611001.out))) (Kd.R_lt (by (with_reducible repeat (apply Kd.R_drew)); exact HO_616001.out))) (Kd.R_lt (by (with_reducible repeat (apply Kd.R_drew)); exact HO_622001.out))) (Kd.R_lt (by (with_reducible repeat (apply Kd.R_drew)); exact HO644.out))) (Kd.R_lt (by (with_reducible repeat (apply Kd.R_drew)); exact HO648.out))) (below_size (by repeat ((with_reducible exact HB.out)))))
    have n7_ := Aside0.mk (blk_below (g := gb588) (o := .cells #[.int .i64 a0_0, .slice A0_1 l0_1.length c0_1] 24 (0, 0)) (by (with_reducible repeat (refine blk_drew ?_)); exact BK588.out) hb)
    have n8_ := Aside0.mk (blk_below (g := gb589) (o := .cells #[.int .i64 a1_0, .slice A1_1 l1_1.length c1_1] 24 (0, 0)) (by (with_reducible repeat (refine blk_drew ?_)); exact BK589.out) hb)
    have n9_ := Aside0.mk (blk_below (g := gb605) (o := .cells #[.int .i64 t600, .slice Ao42 t601.length co42] 28 (0, 0)) (by (with_reducible repeat (refine blk_drew ?_)); exact BK605.out) hb)
    have n10_ := Aside0.mk (blk_below (g := gb610) (o := .cells #[.int .i64 t606, .slice Ao53 t634.length co53] 28 (0, 0)) (by (with_reducible repeat (refine blk_drew ?_)); exact BK610.out) hb)
    have n11_ := Aside0.mk (blk_below (g := gb615) (o := .cells #[.int .i64 t611, .slice Ao63 t636.length co63] 28 (0, 0)) (by (with_reducible repeat (refine blk_drew ?_)); exact BK615.out) hb)
    have n12_ := Aside0.mk (blk_below (g := gb621) (o := .cells #[.int .i64 t616, .slice Ao73 t617.length co73] 28 (0, 0)) (by (with_reducible repeat (refine blk_drew ?_)); exact BK621.out) hb)
    have n13_ := Aside0.mk (below_step (by repeat ((with_reducible exact HB.out))) hb)
    clear HO_606001
    clear HO_611001
    clear HO_616001
    clear HO_622001
    clear HO644
    clear HO648
    clear BK588
    clear BK589
    clear BK605
    clear BK610
    clear BK615
    clear BK621
    clear HB
    have HO_606001 := n0_
    have HO_611001 := n1_
    have HO_616001 := n2_
    have HO_622001 := n3_
    have HO644 := n4_
    have HO648 := n5_
    have HO652 := n6_
    have BK588 := n7_
    have BK589 := n8_
    have BK605 := n9_
    have BK610 := n10_
    have BK615 := n11_
    have BK621 := n12_
    have HB := n13_
    clear n0_ n1_ n2_ n3_ n4_ n5_ n6_ n7_ n8_ n9_ n10_ n11_ n12_ n13_
    (try clear hb)
    skip
    skip
    skip
    (try clear ho0)
    refine hK.out _ _ ⟨(blk_cell BK588.out 0).trans rfl, (blk_cell BK588.out 1).trans rfl, (blk_cell BK589.out 0).trans rfl, (blk_cell BK589.out 1).trans rfl⟩ (fun hHeld => ?_)
    clear hK K
    refine norm_ (a' := ?_) ?_ ?_
    rotate_left
    ·show Act.put _ (some 99) _ = _
     simp only [Act.put, List.setIfInBounds_toArray, List.set_cons_zero, List.set_cons_succ, i64_w, i32_w]
     rfl
    refine pure_ (i := 5) (N := some 94) (v := ?_) (a' := ?_) #[true, true, true, true, true, true, false, false, false, false, false] rfl rfl (any_of HT_.out (by kernel_rfl)) (fun _ _ _ h => h) (Or.inl ⟨by rfl, ?_⟩) ?_ ?_
    rotate_left
    ·intro w'
     go_simp
     with_reducible rfl
    rotate_left
    ·simp only [Act.put, List.setIfInBounds_toArray, List.set_cons_zero, List.set_cons_succ, i64_w, i32_w]
     rfl
    refine pure_ (i := 6) (N := some 100) (v := ?_) (a' := ?_) #[true, true, true, true, true, true, true, false, false, false, false] rfl rfl (any_of HT_.out (by kernel_rfl)) (fun _ _ _ h => h) (Or.inl ⟨by rfl, ?_⟩) ?_ ?_
    rotate_left
    ·intro w'
     go_simp
     with_reducible rfl
    rotate_left
    ·simp only [Act.put, List.setIfInBounds_toArray, List.set_cons_zero, List.set_cons_succ, i64_w, i32_w]
     rfl
    refine pure_ (i := 7) (N := some 101) (v := ?_) (a' := ?_) #[true, true, true, true, true, true, true, true, false, false, false] rfl rfl (any_of HT_.out (by kernel_rfl)) (fun _ _ _ h => h) (Or.inl ⟨by rfl, ?_⟩) ?_ ?_
    rotate_left
    ·intro w'
     go_simp
     with_reducible rfl
    rotate_left
    ·simp only [Act.put, List.setIfInBounds_toArray, List.set_cons_zero, List.set_cons_succ, i64_w, i32_w]
     rfl
    refine one_ (i := 8) (N := some 15) #[true, true, true, true, true, true, true, true, true, false, false] rfl rfl (one_of HT_.out (by kernel_rfl)) (by decide) (fun K hK => ?_)
    refine box_step ?hg (N := 15) ?hd (cs := #[.int .i64 0, .slice none 0 0]) (t := 28) ?hr ?_; (case hd => rfl); (case hg => rfl); (case hr => (go_simp; done))
    intro gb654 hg w191 hbox hb
    have n0_ := Aside0.mk (Kd.R_below (by (with_reducible repeat (apply Kd.R_drew)); exact HO_606001.out) hb)
    have n1_ := Aside0.mk (Kd.R_below (by (with_reducible repeat (apply Kd.R_drew)); exact HO_611001.out) hb)
    have n2_ := Aside0.mk (Kd.R_below (by (with_reducible repeat (apply Kd.R_drew)); exact HO_616001.out) hb)
    have n3_ := Aside0.mk (Kd.R_below (by (with_reducible repeat (apply Kd.R_drew)); exact HO_622001.out) hb)
    have n4_ := Aside0.mk (Kd.R_below (by (with_reducible repeat (apply Kd.R_drew)); exact HO644.out) hb)
    have n5_ := Aside0.mk (Kd.R_below (by (with_reducible repeat (apply Kd.R_drew)); exact HO648.out) hb)
    have n6_ := Aside0.mk (Kd.R_below (by (with_reducible repeat (apply Kd.R_drew)); exact HO652.out) hb)
    have n7_ := Aside0.mk (blk_below (g := gb588) (o := .cells #[.int .i64 a0_0, .slice A0_1 l0_1.length c0_1] 24 (0, 0)) (by (with_reducible repeat (refine blk_drew ?_)); exact BK588.out) hb)
    have n8_ := Aside0.mk (blk_below (g := gb589) (o := .cells #[.int .i64 a1_0, .slice A1_1 l1_1.length c1_1] 24 (0, 0)) (by (with_reducible repeat (refine blk_drew ?_)); exact BK589.out) hb)
    have n9_ := Aside0.mk (blk_below (g := gb605) (o := .cells #[.int .i64 t600, .slice Ao42 t601.length co42] 28 (0, 0)) (by (with_reducible repeat (refine blk_drew ?_)); exact BK605.out) hb)
    have n10_ := Aside0.mk (blk_below (g := gb610) (o := .cells #[.int .i64 t606, .slice Ao53 t634.length co53] 28 (0, 0)) (by (with_reducible repeat (refine blk_drew ?_)); exact BK610.out) hb)
    have n11_ := Aside0.mk (blk_below (g := gb615) (o := .cells #[.int .i64 t611, .slice Ao63 t636.length co63] 28 (0, 0)) (by (with_reducible repeat (refine blk_drew ?_)); exact BK615.out) hb)
    have n12_ := Aside0.mk (blk_below (g := gb621) (o := .cells #[.int .i64 t616, .slice Ao73 t617.length co73] 28 (0, 0)) (by (with_reducible repeat (refine blk_drew ?_)); exact BK621.out) hb)
    have n13_ := Aside0.mk (below_step (by repeat ((with_reducible exact HB.out))) hb)
    have n14_ := Aside0.mk (hbox)
    have n15_ := Aside0.mk ((by rw [hg]; exact (below_size (by repeat ((with_reducible exact HB.out)))) : w.heap.size ≤ gb654))
    have n16_ := Aside0.mk ((by rw [hg]; exact (below_size (by repeat ((with_reducible exact HB.out)))) : w.heap.size ≤ gb654))
    have n17_ := Aside0.mk ((by rw [hg]; exact Nat.ne_of_lt (blk_lt (g := gb588) (o := .cells #[.int .i64 a0_0, .slice A0_1 l0_1.length c0_1] 24 (0, 0)) (by (with_reducible repeat (refine blk_drew ?_)); exact BK588.out)) : gb588 ≠ gb654))
    have n18_ := Aside0.mk ((by rw [hg]; exact Nat.ne_of_gt (blk_lt (g := gb588) (o := .cells #[.int .i64 a0_0, .slice A0_1 l0_1.length c0_1] 24 (0, 0)) (by (with_reducible repeat (refine blk_drew ?_)); exact BK588.out)) : gb654 ≠ gb588))
    have n19_ := Aside0.mk ((by rw [hg]; exact Nat.ne_of_lt (blk_lt (g := gb589) (o := .cells #[.int .i64 a1_0, .slice A1_1 l1_1.length c1_1] 24 (0, 0)) (by (with_reducible repeat (refine blk_drew ?_)); exact BK589.out)) : gb589 ≠ gb654))
    have n20_ := Aside0.mk ((by rw [hg]; exact Nat.ne_of_gt (blk_lt (g := gb589) (o := .cells #[.int .i64 a1_0, .slice A1_1 l1_1.length c1_1] 24 (0, 0)) (by (with_reducible repeat (refine blk_drew ?_)); exact BK589.out)) : gb654 ≠ gb589))
    have n21_ := Aside0.mk ((by rw [hg]; exact Nat.ne_of_lt (blk_lt (g := gb605) (o := .cells #[.int .i64 t600, .slice Ao42 t601.length co42] 28 (0, 0)) (by (with_reducible repeat (refine blk_drew ?_)); exact BK605.out)) : gb605 ≠ gb654))
    have n22_ := Aside0.mk ((by rw [hg]; exact Nat.ne_of_gt (blk_lt (g := gb605) (o := .cells #[.int .i64 t600, .slice Ao42 t601.length co42] 28 (0, 0)) (by (with_reducible repeat (refine blk_drew ?_)); exact BK605.out)) : gb654 ≠ gb605))
    have n23_ := Aside0.mk ((by rw [hg]; exact Nat.ne_of_lt (blk_lt (g := gb610) (o := .cells #[.int .i64 t606, .slice Ao53 t634.length co53] 28 (0, 0)) (by (with_reducible repeat (refine blk_drew ?_)); exact BK610.out)) : gb610 ≠ gb654))
    have n24_ := Aside0.mk ((by rw [hg]; exact Nat.ne_of_gt (blk_lt (g := gb610) (o := .cells #[.int .i64 t606, .slice Ao53 t634.length co53] 28 (0, 0)) (by (with_reducible repeat (refine blk_drew ?_)); exact BK610.out)) : gb654 ≠ gb610))
    have n25_ := Aside0.mk ((by rw [hg]; exact Nat.ne_of_lt (blk_lt (g := gb615) (o := .cells #[.int .i64 t611, .slice Ao63 t636.length co63] 28 (0, 0)) (by (with_reducible repeat (refine blk_drew ?_)); exact BK615.out)) : gb615 ≠ gb654))
    have n26_ := Aside0.mk ((by rw [hg]; exact Nat.ne_of_gt (blk_lt (g := gb615) (o := .cells #[.int .i64 t611, .slice Ao63 t636.length co63] 28 (0, 0)) (by (with_reducible repeat (refine blk_drew ?_)); exact BK615.out)) : gb654 ≠ gb615))
    have n27_ := Aside0.mk ((by rw [hg]; exact Nat.ne_of_lt (blk_lt (g := gb621) (o := .cells #[.int .i64 t616, .slice Ao73 t617.length co73] 28 (0, 0)) (by (with_reducible repeat (refine blk_drew ?_)); exact BK621.out)) : gb621 ≠ gb654))
    have n28_ := Aside0.mk ((by rw [hg]; exact Nat.ne_of_gt (blk_lt (g := gb621) (o := .cells #[.int .i64 t616, .slice Ao73 t617.length co73] 28 (0, 0)) (by (with_reducible repeat (refine blk_drew ?_)); exact BK621.out)) : gb654 ≠ gb621))
    clear HO_606001
    clear HO_611001
    clear HO_616001
    clear HO_622001
    clear HO644
    clear HO648
    clear HO652
    clear BK588
    clear BK589
    clear BK605
    clear BK610
    clear BK615
    clear BK621
    clear HB
    have HO_606001 := n0_
    have HO_611001 := n1_
    have HO_616001 := n2_
    have HO_622001 := n3_
    have HO644 := n4_
    have HO648 := n5_
    have HO652 := n6_
    have BK588 := n7_
    have BK589 := n8_
    have BK605 := n9_
    have BK610 := n10_
    have BK615 := n11_
    have BK621 := n12_
    have HB := n13_
    have BK654 := n14_
    have GW654 := n15_
    have GE654 := n16_
    have NB588_654 := n17_
    have NB654_588 := n18_
    have NB589_654 := n19_
    have NB654_589 := n20_
    have NB605_654 := n21_
    have NB654_605 := n22_
    have NB610_654 := n23_
    have NB654_610 := n24_
    have NB615_654 := n25_
    have NB654_615 := n26_
    have NB621_654 := n27_
    have NB654_621 := n28_
    clear n0_ n1_ n2_ n3_ n4_ n5_ n6_ n7_ n8_ n9_ n10_ n11_ n12_ n13_ n14_ n15_ n16_ n17_ n18_ n19_ n20_ n21_ n22_ n23_ n24_ n25_ n26_ n27_ n28_
    clear hb hbox hg
    refine hK.out _ _ ⟨(blk_cell BK588.out 0).trans rfl, (blk_cell BK588.out 1).trans rfl, (blk_cell BK589.out 0).trans rfl, (blk_cell BK589.out 1).trans rfl⟩ (fun hHeld => ?_)
    clear hK K
    refine norm_ (a' := ?_) ?_ ?_
    rotate_left
    ·show Act.put _ (some 15) _ = _
     simp only [Act.put, List.setIfInBounds_toArray, List.set_cons_zero, List.set_cons_succ, i64_w, i32_w]
     rfl
    exact norm_ (by simp only [putAll, Act.put, List.setIfInBounds_toArray, List.set_cons_zero, List.set_cons_succ]) (hCont (.slice Ao188 t642.length co188, .slice Ao189 t646.length co189, v651, gb654) _ ⟨hHeld, (by (with_reducible repeat (apply Kd.R_drew)); exact Kd.R_mono HO644.out (fun _ hk => ⟨hk.1.2, ⟨hk.2, ⟨hk.1.1.1.1.1.2, ⟨hk.1.1.1.1.2, ⟨hk.1.1.1.2, hk.1.1.2⟩⟩⟩⟩⟩)), (by (with_reducible repeat (apply Kd.R_drew)); exact Kd.R_mono HO648.out (fun _ hk => ⟨hk.1.2, ⟨hk.2, ⟨hk.1.1.1.1.1.2, ⟨hk.1.1.1.1.2, ⟨hk.1.1.1.2, hk.1.1.2⟩⟩⟩⟩⟩)), (by (with_reducible repeat (apply Kd.R_drew)); exact Kd.R_mono HO652.out (fun _ hk => ⟨hk.1.2, ⟨hk.2, ⟨hk.1.1.1.1.1.2, ⟨hk.1.1.1.1.2, ⟨hk.1.1.1.2, hk.1.1.2⟩⟩⟩⟩⟩)), (by (with_reducible repeat (apply Kd.R_drew)); exact Kd.R_mono HO_606001.out (fun _ hk => ⟨hk.1.1.2, ⟨hk.1.2, ⟨hk.2, ⟨hk.1.1.1.1, ⟨hk.1.1.1.2.1, hk.1.1.1.2.2⟩⟩⟩⟩⟩)), (by (with_reducible repeat (apply Kd.R_drew)); exact Kd.R_mono HO_611001.out (fun _ hk => ⟨hk.1.1.2, ⟨hk.1.2, ⟨hk.2, ⟨hk.1.1.1.1, ⟨hk.1.1.1.2.1, hk.1.1.1.2.2⟩⟩⟩⟩⟩)), (by (with_reducible repeat (apply Kd.R_drew)); exact Kd.R_mono HO_616001.out (fun _ hk => ⟨hk.1.1.2, ⟨hk.1.2, ⟨hk.2, ⟨hk.1.1.1.1, ⟨hk.1.1.1.2.1, hk.1.1.1.2.2⟩⟩⟩⟩⟩)), (by (with_reducible repeat (apply Kd.R_drew)); exact Kd.R_mono HO_622001.out (fun _ hk => ⟨hk.1.1.2, ⟨hk.1.2, ⟨hk.2, ⟨hk.1.1.1.1, ⟨hk.1.1.1.2.1, hk.1.1.1.2.2⟩⟩⟩⟩⟩)), (by (with_reducible repeat (refine blk_drew ?_)); exact BK588.out), (by (with_reducible repeat (refine blk_drew ?_)); exact BK589.out), (by (with_reducible repeat (refine blk_drew ?_)); exact BK605.out), (by (with_reducible repeat (refine blk_drew ?_)); exact BK610.out), (by (with_reducible repeat (refine blk_drew ?_)); exact BK615.out), (by (with_reducible repeat (refine blk_drew ?_)); exact BK621.out), (by (with_reducible repeat (refine blk_drew ?_)); exact BK654.out), GW654.out, GE654.out, NB588_654.out, NB654_588.out, NB589_654.out, NB654_589.out, NB605_654.out, NB654_605.out, NB610_654.out, NB654_610.out, NB615_654.out, NB654_615.out, NB621_654.out, NB654_621.out, (by repeat ((with_reducible exact HB.out)))⟩)
   ·skip
    refine box_step ?hg (N := 15) ?hd (cs := #[.int .i64 0, .slice none 0 0]) (t := 28) ?hr ?_; (case hd => rfl); (case hg => rfl); (case hr => (go_simp; done))
    intro gb654 hg w188 hbox hb
    have n0_ := Aside0.mk (Kd.R_below (by (with_reducible repeat (apply Kd.R_drew)); exact HO_606001.out) hb)
    have n1_ := Aside0.mk (Kd.R_below (by (with_reducible repeat (apply Kd.R_drew)); exact HO_611001.out) hb)
    have n2_ := Aside0.mk (Kd.R_below (by (with_reducible repeat (apply Kd.R_drew)); exact HO_616001.out) hb)
    have n3_ := Aside0.mk (Kd.R_below (by (with_reducible repeat (apply Kd.R_drew)); exact HO_622001.out) hb)
    have n4_ := Aside0.mk (Kd.R_below (by (with_reducible repeat (apply Kd.R_drew)); exact HO644.out) hb)
    have n5_ := Aside0.mk (Kd.R_below (by (with_reducible repeat (apply Kd.R_drew)); exact HO648.out) hb)
    have n6_ := Aside0.mk (blk_below (g := gb588) (o := .cells #[.int .i64 a0_0, .slice A0_1 l0_1.length c0_1] 24 (0, 0)) (by (with_reducible repeat (refine blk_drew ?_)); exact BK588.out) hb)
    have n7_ := Aside0.mk (blk_below (g := gb589) (o := .cells #[.int .i64 a1_0, .slice A1_1 l1_1.length c1_1] 24 (0, 0)) (by (with_reducible repeat (refine blk_drew ?_)); exact BK589.out) hb)
    have n8_ := Aside0.mk (blk_below (g := gb605) (o := .cells #[.int .i64 t600, .slice Ao42 t601.length co42] 28 (0, 0)) (by (with_reducible repeat (refine blk_drew ?_)); exact BK605.out) hb)
    have n9_ := Aside0.mk (blk_below (g := gb610) (o := .cells #[.int .i64 t606, .slice Ao53 t634.length co53] 28 (0, 0)) (by (with_reducible repeat (refine blk_drew ?_)); exact BK610.out) hb)
    have n10_ := Aside0.mk (blk_below (g := gb615) (o := .cells #[.int .i64 t611, .slice Ao63 t636.length co63] 28 (0, 0)) (by (with_reducible repeat (refine blk_drew ?_)); exact BK615.out) hb)
    have n11_ := Aside0.mk (blk_below (g := gb621) (o := .cells #[.int .i64 t616, .slice Ao73 t617.length co73] 28 (0, 0)) (by (with_reducible repeat (refine blk_drew ?_)); exact BK621.out) hb)
    have n12_ := Aside0.mk (below_step (by repeat ((with_reducible exact HB.out))) hb)
    have n13_ := Aside0.mk (hbox)
    have n14_ := Aside0.mk ((by rw [hg]; exact (below_size (by repeat ((with_reducible exact HB.out)))) : w.heap.size ≤ gb654))
    have n15_ := Aside0.mk ((by rw [hg]; exact (below_size (by repeat ((with_reducible exact HB.out)))) : w.heap.size ≤ gb654))
    have n16_ := Aside0.mk ((by rw [hg]; exact Nat.ne_of_lt (blk_lt (g := gb588) (o := .cells #[.int .i64 a0_0, .slice A0_1 l0_1.length c0_1] 24 (0, 0)) (by (with_reducible repeat (refine blk_drew ?_)); exact BK588.out)) : gb588 ≠ gb654))
    have n17_ := Aside0.mk ((by rw [hg]; exact Nat.ne_of_gt (blk_lt (g := gb588) (o := .cells #[.int .i64 a0_0, .slice A0_1 l0_1.length c0_1] 24 (0, 0)) (by (with_reducible repeat (refine blk_drew ?_)); exact BK588.out)) : gb654 ≠ gb588))
    have n18_ := Aside0.mk ((by rw [hg]; exact Nat.ne_of_lt (blk_lt (g := gb589) (o := .cells #[.int .i64 a1_0, .slice A1_1 l1_1.length c1_1] 24 (0, 0)) (by (with_reducible repeat (refine blk_drew ?_)); exact BK589.out)) : gb589 ≠ gb654))
    have n19_ := Aside0.mk ((by rw [hg]; exact Nat.ne_of_gt (blk_lt (g := gb589) (o := .cells #[.int .i64 a1_0, .slice A1_1 l1_1.length c1_1] 24 (0, 0)) (by (with_reducible repeat (refine blk_drew ?_)); exact BK589.out)) : gb654 ≠ gb589))
    have n20_ := Aside0.mk ((by rw [hg]; exact Nat.ne_of_lt (blk_lt (g := gb605) (o := .cells #[.int .i64 t600, .slice Ao42 t601.length co42] 28 (0, 0)) (by (with_reducible repeat (refine blk_drew ?_)); exact BK605.out)) : gb605 ≠ gb654))
    have n21_ := Aside0.mk ((by rw [hg]; exact Nat.ne_of_gt (blk_lt (g := gb605) (o := .cells #[.int .i64 t600, .slice Ao42 t601.length co42] 28 (0, 0)) (by (with_reducible repeat (refine blk_drew ?_)); exact BK605.out)) : gb654 ≠ gb605))
    have n22_ := Aside0.mk ((by rw [hg]; exact Nat.ne_of_lt (blk_lt (g := gb610) (o := .cells #[.int .i64 t606, .slice Ao53 t634.length co53] 28 (0, 0)) (by (with_reducible repeat (refine blk_drew ?_)); exact BK610.out)) : gb610 ≠ gb654))
    have n23_ := Aside0.mk ((by rw [hg]; exact Nat.ne_of_gt (blk_lt (g := gb610) (o := .cells #[.int .i64 t606, .slice Ao53 t634.length co53] 28 (0, 0)) (by (with_reducible repeat (refine blk_drew ?_)); exact BK610.out)) : gb654 ≠ gb610))
    have n24_ := Aside0.mk ((by rw [hg]; exact Nat.ne_of_lt (blk_lt (g := gb615) (o := .cells #[.int .i64 t611, .slice Ao63 t636.length co63] 28 (0, 0)) (by (with_reducible repeat (refine blk_drew ?_)); exact BK615.out)) : gb615 ≠ gb654))
    have n25_ := Aside0.mk ((by rw [hg]; exact Nat.ne_of_gt (blk_lt (g := gb615) (o := .cells #[.int .i64 t611, .slice Ao63 t636.length co63] 28 (0, 0)) (by (with_reducible repeat (refine blk_drew ?_)); exact BK615.out)) : gb654 ≠ gb615))
    have n26_ := Aside0.mk ((by rw [hg]; exact Nat.ne_of_lt (blk_lt (g := gb621) (o := .cells #[.int .i64 t616, .slice Ao73 t617.length co73] 28 (0, 0)) (by (with_reducible repeat (refine blk_drew ?_)); exact BK621.out)) : gb621 ≠ gb654))
    have n27_ := Aside0.mk ((by rw [hg]; exact Nat.ne_of_gt (blk_lt (g := gb621) (o := .cells #[.int .i64 t616, .slice Ao73 t617.length co73] 28 (0, 0)) (by (with_reducible repeat (refine blk_drew ?_)); exact BK621.out)) : gb654 ≠ gb621))
    clear HO_606001
    clear HO_611001
    clear HO_616001
    clear HO_622001
    clear HO644
    clear HO648
    clear BK588
    clear BK589
    clear BK605
    clear BK610
    clear BK615
    clear BK621
    clear HB
    have HO_606001 := n0_
    have HO_611001 := n1_
    have HO_616001 := n2_
    have HO_622001 := n3_
    have HO644 := n4_
    have HO648 := n5_
    have BK588 := n6_
    have BK589 := n7_
    have BK605 := n8_
    have BK610 := n9_
    have BK615 := n10_
    have BK621 := n11_
    have HB := n12_
    have BK654 := n13_
    have GW654 := n14_
    have GE654 := n15_
    have NB588_654 := n16_
    have NB654_588 := n17_
    have NB589_654 := n18_
    have NB654_589 := n19_
    have NB605_654 := n20_
    have NB654_605 := n21_
    have NB610_654 := n22_
    have NB654_610 := n23_
    have NB615_654 := n24_
    have NB654_615 := n25_
    have NB621_654 := n26_
    have NB654_621 := n27_
    clear n0_ n1_ n2_ n3_ n4_ n5_ n6_ n7_ n8_ n9_ n10_ n11_ n12_ n13_ n14_ n15_ n16_ n17_ n18_ n19_ n20_ n21_ n22_ n23_ n24_ n25_ n26_ n27_
    clear hb hbox hg
    obtain ⟨Ao189, co189, eo189⟩ := Kd.R_slice HO644.out
    ((injection eo189 with f1_ f2_ f3_; have f4_ := f1_.symm; have f5_ := f3_.symm; clear f1_ f2_ f3_; subst f4_; subst f5_))
    obtain ⟨Ao190, co190, eo190⟩ := Kd.R_slice HO648.out
    ((injection eo190 with f1_ f2_ f3_; have f4_ := f1_.symm; have f5_ := f3_.symm; clear f1_ f2_ f3_; subst f4_; subst f5_))
    refine hK.out _ _ ⟨(blk_cell BK588.out 0).trans rfl, (blk_cell BK588.out 1).trans rfl, (blk_cell BK589.out 0).trans rfl, (blk_cell BK589.out 1).trans rfl⟩ (fun hHeld => ?_)
    clear hK K
    refine norm_ (a' := ?_) ?_ ?_
    rotate_left
    ·show Act.put _ (some 15) _ = _
     simp only [Act.put, List.setIfInBounds_toArray, List.set_cons_zero, List.set_cons_succ, i64_w, i32_w]
     rfl
    refine one_ (i := 4) (N := some 99) #[true, true, true, true, true, false, false, false, true, false, false] rfl rfl (one_of HT_.out (by kernel_rfl)) (by decide) (fun K hK => ?_)
    refine goes_ Try.func30 (by kernel_rfl) rfl #[.agg #[.int .i64 t641, .slice Ao189 t642.length co189], .agg #[.int .i64 t645, .slice Ao190 t646.length co190]] (by rfl) rfl rfl (by (try simp only [List.map_toArray, List.map_cons, List.map_nil]); rfl) ?_
    with_reducible refine (impl_UnionSpaces.calls kj108 t641 _ _ t642 t645 _ _ t646 t649 t650 t653 _ ?side1 ?side2 ?side3 ?side4 A174.out).mono ?_
    (case side1 => repeat (exact (Kd.R_reads' HO644.out).2.2))
    (case side2 => exact (Kd.R_reads' HO644.out).2.1)
    (case side3 => repeat (exact (Kd.R_reads' HO648.out).2.2))
    (case side4 => exact (Kd.R_reads' HO648.out).2.1)
    rintro e w191 ⟨v651, rfl, ho0, hb⟩
    refine ⟨_, rfl, ?_⟩
    have n0_ := Aside0.mk (Kd.R_elder' (by (with_reducible repeat (apply Kd.R_drew)); exact HO_606001.out) (Kd.R_base ho0) hb)
    have n1_ := Aside0.mk (Kd.R_elder' (by (with_reducible repeat (apply Kd.R_drew)); exact HO_611001.out) (Kd.R_base ho0) hb)
    have n2_ := Aside0.mk (Kd.R_elder' (by (with_reducible repeat (apply Kd.R_drew)); exact HO_616001.out) (Kd.R_base ho0) hb)
    have n3_ := Aside0.mk (Kd.R_elder' (by (with_reducible repeat (apply Kd.R_drew)); exact HO_622001.out) (Kd.R_base ho0) hb)
    have n4_ := Aside0.mk (Kd.R_elder' (by (with_reducible repeat (apply Kd.R_drew)); exact HO644.out) (Kd.R_base ho0) hb)
    have n5_ := Aside0.mk (Kd.R_elder' (by (with_reducible repeat (apply Kd.R_drew)); exact HO648.out) (Kd.R_base ho0) hb)
    have n6_ := Aside0.mk (Kd.R_lower (Kd.R_new' (Kd.R_new' (Kd.R_new' (Kd.R_new' (Kd.R_new' (Kd.R_new' ho0 (Kd.R_lt (by (with_reducible repeat (apply Kd.R_drew)); exact HO_606001.out))) (Kd.R_lt (by (with_reducible repeat (apply Kd.R_drew)); exact HO_611001.out))) (Kd.R_lt (by (with_reducible repeat (apply Kd.R_drew)); exact HO_616001.out))) (Kd.R_lt (by (with_reducible repeat (apply Kd.R_drew)); exact HO_622001.out))) (Kd.R_lt (by (with_reducible repeat (apply Kd.R_drew)); exact HO644.out))) (Kd.R_lt (by (with_reducible repeat (apply Kd.R_drew)); exact HO648.out))) (below_size (by repeat ((with_reducible exact HB.out)))))
    have n7_ := Aside0.mk (blk_below (g := gb588) (o := .cells #[.int .i64 a0_0, .slice A0_1 l0_1.length c0_1] 24 (0, 0)) (by (with_reducible repeat (refine blk_drew ?_)); exact BK588.out) hb)
    have n8_ := Aside0.mk (blk_below (g := gb589) (o := .cells #[.int .i64 a1_0, .slice A1_1 l1_1.length c1_1] 24 (0, 0)) (by (with_reducible repeat (refine blk_drew ?_)); exact BK589.out) hb)
    have n9_ := Aside0.mk (blk_below (g := gb605) (o := .cells #[.int .i64 t600, .slice Ao42 t601.length co42] 28 (0, 0)) (by (with_reducible repeat (refine blk_drew ?_)); exact BK605.out) hb)
    have n10_ := Aside0.mk (blk_below (g := gb610) (o := .cells #[.int .i64 t606, .slice Ao53 t634.length co53] 28 (0, 0)) (by (with_reducible repeat (refine blk_drew ?_)); exact BK610.out) hb)
    have n11_ := Aside0.mk (blk_below (g := gb615) (o := .cells #[.int .i64 t611, .slice Ao63 t636.length co63] 28 (0, 0)) (by (with_reducible repeat (refine blk_drew ?_)); exact BK615.out) hb)
    have n12_ := Aside0.mk (blk_below (g := gb621) (o := .cells #[.int .i64 t616, .slice Ao73 t617.length co73] 28 (0, 0)) (by (with_reducible repeat (refine blk_drew ?_)); exact BK621.out) hb)
    have n13_ := Aside0.mk (blk_below (g := gb654) (o := .cells #[.int .i64 0, .slice none 0 0] 28 (0, 0)) (by (with_reducible repeat (refine blk_drew ?_)); exact BK654.out) hb)
    have n14_ := Aside0.mk (below_step (by repeat ((with_reducible exact HB.out))) hb)
    clear HO_606001
    clear HO_611001
    clear HO_616001
    clear HO_622001
    clear HO644
    clear HO648
    clear BK588
    clear BK589
    clear BK605
    clear BK610
    clear BK615
    clear BK621
    clear BK654
    clear HB
    have HO_606001 := n0_
    have HO_611001 := n1_
    have HO_616001 := n2_
    have HO_622001 := n3_
    have HO644 := n4_
    have HO648 := n5_
    have HO652 := n6_
    have BK588 := n7_
    have BK589 := n8_
    have BK605 := n9_
    have BK610 := n10_
    have BK615 := n11_
    have BK621 := n12_
    have BK654 := n13_
    have HB := n14_
    clear n0_ n1_ n2_ n3_ n4_ n5_ n6_ n7_ n8_ n9_ n10_ n11_ n12_ n13_ n14_
    (try clear hb)
    skip
    skip
    skip
    (try clear ho0)
    refine hK.out _ _ ⟨(blk_cell BK588.out 0).trans rfl, (blk_cell BK588.out 1).trans rfl, (blk_cell BK589.out 0).trans rfl, (blk_cell BK589.out 1).trans rfl⟩ (fun hHeld => ?_)
    clear hK K
    refine norm_ (a' := ?_) ?_ ?_
    rotate_left
    ·show Act.put _ (some 99) _ = _
     simp only [Act.put, List.setIfInBounds_toArray, List.set_cons_zero, List.set_cons_succ, i64_w, i32_w]
     rfl
    refine pure_ (i := 5) (N := some 94) (v := ?_) (a' := ?_) #[true, true, true, true, true, true, false, false, true, false, false] rfl rfl (any_of HT_.out (by kernel_rfl)) (fun _ _ _ h => h) (Or.inl ⟨by rfl, ?_⟩) ?_ ?_
    rotate_left
    ·intro w'
     go_simp
     with_reducible rfl
    rotate_left
    ·simp only [Act.put, List.setIfInBounds_toArray, List.set_cons_zero, List.set_cons_succ, i64_w, i32_w]
     rfl
    refine pure_ (i := 6) (N := some 100) (v := ?_) (a' := ?_) #[true, true, true, true, true, true, true, false, true, false, false] rfl rfl (any_of HT_.out (by kernel_rfl)) (fun _ _ _ h => h) (Or.inl ⟨by rfl, ?_⟩) ?_ ?_
    rotate_left
    ·intro w'
     go_simp
     with_reducible rfl
    rotate_left
    ·simp only [Act.put, List.setIfInBounds_toArray, List.set_cons_zero, List.set_cons_succ, i64_w, i32_w]
     rfl
    refine pure_ (i := 7) (N := some 101) (v := ?_) (a' := ?_) #[true, true, true, true, true, true, true, true, true, false, false] rfl rfl (any_of HT_.out (by kernel_rfl)) (fun _ _ _ h => h) (Or.inl ⟨by rfl, ?_⟩) ?_ ?_
    rotate_left
    ·intro w'
     go_simp
     with_reducible rfl
    rotate_left
    ·simp only [Act.put, List.setIfInBounds_toArray, List.set_cons_zero, List.set_cons_succ, i64_w, i32_w]
     rfl
    exact norm_ (by simp only [putAll, Act.put, List.setIfInBounds_toArray, List.set_cons_zero, List.set_cons_succ]) (hCont (.slice Ao189 t642.length co189, .slice Ao190 t646.length co190, v651, gb654) _ ⟨hHeld, (by (with_reducible repeat (apply Kd.R_drew)); exact Kd.R_mono HO644.out (fun _ hk => ⟨hk.1.2, ⟨hk.2, ⟨hk.1.1.1.1.1.2, ⟨hk.1.1.1.1.2, ⟨hk.1.1.1.2, hk.1.1.2⟩⟩⟩⟩⟩)), (by (with_reducible repeat (apply Kd.R_drew)); exact Kd.R_mono HO648.out (fun _ hk => ⟨hk.1.2, ⟨hk.2, ⟨hk.1.1.1.1.1.2, ⟨hk.1.1.1.1.2, ⟨hk.1.1.1.2, hk.1.1.2⟩⟩⟩⟩⟩)), (by (with_reducible repeat (apply Kd.R_drew)); exact Kd.R_mono HO652.out (fun _ hk => ⟨hk.1.2, ⟨hk.2, ⟨hk.1.1.1.1.1.2, ⟨hk.1.1.1.1.2, ⟨hk.1.1.1.2, hk.1.1.2⟩⟩⟩⟩⟩)), (by (with_reducible repeat (apply Kd.R_drew)); exact Kd.R_mono HO_606001.out (fun _ hk => ⟨hk.1.1.2, ⟨hk.1.2, ⟨hk.2, ⟨hk.1.1.1.1, ⟨hk.1.1.1.2.1, hk.1.1.1.2.2⟩⟩⟩⟩⟩)), (by (with_reducible repeat (apply Kd.R_drew)); exact Kd.R_mono HO_611001.out (fun _ hk => ⟨hk.1.1.2, ⟨hk.1.2, ⟨hk.2, ⟨hk.1.1.1.1, ⟨hk.1.1.1.2.1, hk.1.1.1.2.2⟩⟩⟩⟩⟩)), (by (with_reducible repeat (apply Kd.R_drew)); exact Kd.R_mono HO_616001.out (fun _ hk => ⟨hk.1.1.2, ⟨hk.1.2, ⟨hk.2, ⟨hk.1.1.1.1, ⟨hk.1.1.1.2.1, hk.1.1.1.2.2⟩⟩⟩⟩⟩)), (by (with_reducible repeat (apply Kd.R_drew)); exact Kd.R_mono HO_622001.out (fun _ hk => ⟨hk.1.1.2, ⟨hk.1.2, ⟨hk.2, ⟨hk.1.1.1.1, ⟨hk.1.1.1.2.1, hk.1.1.1.2.2⟩⟩⟩⟩⟩)), (by (with_reducible repeat (refine blk_drew ?_)); exact BK588.out), (by (with_reducible repeat (refine blk_drew ?_)); exact BK589.out), (by (with_reducible repeat (refine blk_drew ?_)); exact BK605.out), (by (with_reducible repeat (refine blk_drew ?_)); exact BK610.out), (by (with_reducible repeat (refine blk_drew ?_)); exact BK615.out), (by (with_reducible repeat (refine blk_drew ?_)); exact BK621.out), (by (with_reducible repeat (refine blk_drew ?_)); exact BK654.out), GW654.out, GE654.out, NB588_654.out, NB654_588.out, NB589_654.out, NB654_589.out, NB605_654.out, NB654_605.out, NB610_654.out, NB654_610.out, NB615_654.out, NB654_615.out, NB621_654.out, NB654_621.out, (by repeat ((with_reducible exact HB.out)))⟩)
  ·skip
   refine box_step ?hg (N := 15) ?hd (cs := #[.int .i64 0, .slice none 0 0]) (t := 28) ?hr ?_; (case hd => rfl); (case hg => rfl); (case hr => (go_simp; done))
   intro gb654 hg w187 hbox hb
   have n0_ := Aside0.mk (Kd.R_below (by (with_reducible repeat (apply Kd.R_drew)); exact HO_606001.out) hb)
   have n1_ := Aside0.mk (Kd.R_below (by (with_reducible repeat (apply Kd.R_drew)); exact HO_611001.out) hb)
   have n2_ := Aside0.mk (Kd.R_below (by (with_reducible repeat (apply Kd.R_drew)); exact HO_616001.out) hb)
   have n3_ := Aside0.mk (Kd.R_below (by (with_reducible repeat (apply Kd.R_drew)); exact HO_622001.out) hb)
   have n4_ := Aside0.mk (Kd.R_below (by (with_reducible repeat (apply Kd.R_drew)); exact HO644.out) hb)
   have n5_ := Aside0.mk (blk_below (g := gb588) (o := .cells #[.int .i64 a0_0, .slice A0_1 l0_1.length c0_1] 24 (0, 0)) (by (with_reducible repeat (refine blk_drew ?_)); exact BK588.out) hb)
   have n6_ := Aside0.mk (blk_below (g := gb589) (o := .cells #[.int .i64 a1_0, .slice A1_1 l1_1.length c1_1] 24 (0, 0)) (by (with_reducible repeat (refine blk_drew ?_)); exact BK589.out) hb)
   have n7_ := Aside0.mk (blk_below (g := gb605) (o := .cells #[.int .i64 t600, .slice Ao42 t601.length co42] 28 (0, 0)) (by (with_reducible repeat (refine blk_drew ?_)); exact BK605.out) hb)
   have n8_ := Aside0.mk (blk_below (g := gb610) (o := .cells #[.int .i64 t606, .slice Ao53 t634.length co53] 28 (0, 0)) (by (with_reducible repeat (refine blk_drew ?_)); exact BK610.out) hb)
   have n9_ := Aside0.mk (blk_below (g := gb615) (o := .cells #[.int .i64 t611, .slice Ao63 t636.length co63] 28 (0, 0)) (by (with_reducible repeat (refine blk_drew ?_)); exact BK615.out) hb)
   have n10_ := Aside0.mk (blk_below (g := gb621) (o := .cells #[.int .i64 t616, .slice Ao73 t617.length co73] 28 (0, 0)) (by (with_reducible repeat (refine blk_drew ?_)); exact BK621.out) hb)
   have n11_ := Aside0.mk (below_step (by repeat ((with_reducible exact HB.out))) hb)
   have n12_ := Aside0.mk (hbox)
   have n13_ := Aside0.mk ((by rw [hg]; exact (below_size (by repeat ((with_reducible exact HB.out)))) : w.heap.size ≤ gb654))
   have n14_ := Aside0.mk ((by rw [hg]; exact (below_size (by repeat ((with_reducible exact HB.out)))) : w.heap.size ≤ gb654))
   have n15_ := Aside0.mk ((by rw [hg]; exact Nat.ne_of_lt (blk_lt (g := gb588) (o := .cells #[.int .i64 a0_0, .slice A0_1 l0_1.length c0_1] 24 (0, 0)) (by (with_reducible repeat (refine blk_drew ?_)); exact BK588.out)) : gb588 ≠ gb654))
   have n16_ := Aside0.mk ((by rw [hg]; exact Nat.ne_of_gt (blk_lt (g := gb588) (o := .cells #[.int .i64 a0_0, .slice A0_1 l0_1.length c0_1] 24 (0, 0)) (by (with_reducible repeat (refine blk_drew ?_)); exact BK588.out)) : gb654 ≠ gb588))
   have n17_ := Aside0.mk ((by rw [hg]; exact Nat.ne_of_lt (blk_lt (g := gb589) (o := .cells #[.int .i64 a1_0, .slice A1_1 l1_1.length c1_1] 24 (0, 0)) (by (with_reducible repeat (refine blk_drew ?_)); exact BK589.out)) : gb589 ≠ gb654))
   have n18_ := Aside0.mk ((by rw [hg]; exact Nat.ne_of_gt (blk_lt (g := gb589) (o := .cells #[.int .i64 a1_0, .slice A1_1 l1_1.length c1_1] 24 (0, 0)) (by (with_reducible repeat (refine blk_drew ?_)); exact BK589.out)) : gb654 ≠ gb589))
   have n19_ := Aside0.mk ((by rw [hg]; exact Nat.ne_of_lt (blk_lt (g := gb605) (o := .cells #[.int .i64 t600, .slice Ao42 t601.length co42] 28 (0, 0)) (by (with_reducible repeat (refine blk_drew ?_)); exact BK605.out)) : gb605 ≠ gb654))
   have n20_ := Aside0.mk ((by rw [hg]; exact Nat.ne_of_gt (blk_lt (g := gb605) (o := .cells #[.int .i64 t600, .slice Ao42 t601.length co42] 28 (0, 0)) (by (with_reducible repeat (refine blk_drew ?_)); exact BK605.out)) : gb654 ≠ gb605))
   have n21_ := Aside0.mk ((by rw [hg]; exact Nat.ne_of_lt (blk_lt (g := gb610) (o := .cells #[.int .i64 t606, .slice Ao53 t634.length co53] 28 (0, 0)) (by (with_reducible repeat (refine blk_drew ?_)); exact BK610.out)) : gb610 ≠ gb654))
   have n22_ := Aside0.mk ((by rw [hg]; exact Nat.ne_of_gt (blk_lt (g := gb610) (o := .cells #[.int .i64 t606, .slice Ao53 t634.length co53] 28 (0, 0)) (by (with_reducible repeat (refine blk_drew ?_)); exact BK610.out)) : gb654 ≠ gb610))
   have n23_ := Aside0.mk ((by rw [hg]; exact Nat.ne_of_lt (blk_lt (g := gb615) (o := .cells #[.int .i64 t611, .slice Ao63 t636.length co63] 28 (0, 0)) (by (with_reducible repeat (refine blk_drew ?_)); exact BK615.out)) : gb615 ≠ gb654))
   have n24_ := Aside0.mk ((by rw [hg]; exact Nat.ne_of_gt (blk_lt (g := gb615) (o := .cells #[.int .i64 t611, .slice Ao63 t636.length co63] 28 (0, 0)) (by (with_reducible repeat (refine blk_drew ?_)); exact BK615.out)) : gb654 ≠ gb615))
   have n25_ := Aside0.mk ((by rw [hg]; exact Nat.ne_of_lt (blk_lt (g := gb621) (o := .cells #[.int .i64 t616, .slice Ao73 t617.length co73] 28 (0, 0)) (by (with_reducible repeat (refine blk_drew ?_)); exact BK621.out)) : gb621 ≠ gb654))
   have n26_ := Aside0.mk ((by rw [hg]; exact Nat.ne_of_gt (blk_lt (g := gb621) (o := .cells #[.int .i64 t616, .slice Ao73 t617.length co73] 28 (0, 0)) (by (with_reducible repeat (refine blk_drew ?_)); exact BK621.out)) : gb654 ≠ gb621))
   clear HO_606001
   clear HO_611001
   clear HO_616001
   clear HO_622001
   clear HO644
   clear BK588
   clear BK589
   clear BK605
   clear BK610
   clear BK615
   clear BK621
   clear HB
   have HO_606001 := n0_
   have HO_611001 := n1_
   have HO_616001 := n2_
   have HO_622001 := n3_
   have HO644 := n4_
   have BK588 := n5_
   have BK589 := n6_
   have BK605 := n7_
   have BK610 := n8_
   have BK615 := n9_
   have BK621 := n10_
   have HB := n11_
   have BK654 := n12_
   have GW654 := n13_
   have GE654 := n14_
   have NB588_654 := n15_
   have NB654_588 := n16_
   have NB589_654 := n17_
   have NB654_589 := n18_
   have NB605_654 := n19_
   have NB654_605 := n20_
   have NB610_654 := n21_
   have NB654_610 := n22_
   have NB615_654 := n23_
   have NB654_615 := n24_
   have NB621_654 := n25_
   have NB654_621 := n26_
   clear n0_ n1_ n2_ n3_ n4_ n5_ n6_ n7_ n8_ n9_ n10_ n11_ n12_ n13_ n14_ n15_ n16_ n17_ n18_ n19_ n20_ n21_ n22_ n23_ n24_ n25_ n26_
   clear hb hbox hg
   refine hK.out _ _ ⟨(blk_cell BK588.out 0).trans rfl, (blk_cell BK588.out 1).trans rfl, (blk_cell BK589.out 0).trans rfl, (blk_cell BK589.out 1).trans rfl⟩ (fun hHeld => ?_)
   clear hK K
   refine norm_ (a' := ?_) ?_ ?_
   rotate_left
   ·show Act.put _ (some 15) _ = _
    simp only [Act.put, List.setIfInBounds_toArray, List.set_cons_zero, List.set_cons_succ, i64_w, i32_w]
    rfl
   refine one_ (i := 3) (N := some 98) #[true, true, true, true, false, false, false, false, true, false, false] rfl rfl (one_of HT_.out (by kernel_rfl)) (by decide) (fun K hK => ?_)
   refine goes_ Try.func12 (by kernel_rfl) rfl #[.agg #[.int .i64 a1_0, .slice A1_1 l1_1.length c1_1]] (by rfl) rfl rfl (by (try simp only [List.map_toArray, List.map_cons, List.map_nil]); rfl) ?_
   with_reducible refine (laws_toSpace.calls kj108 a1_0 _ _ l1_1 t645 t646 _ ?side1 ?side2 A173.out).mono ?_
   (case side1 => repeat (exact (Kd.C_below HR1_1.out HB.out)))
   (case side2 => exact HC1_1.out)
   rintro e w188 ⟨v647, rfl, ho0, hb⟩
   refine ⟨_, rfl, ?_⟩
   have n0_ := Aside0.mk (Kd.R_elder' (by (with_reducible repeat (apply Kd.R_drew)); exact HO_606001.out) (Kd.R_base ho0) hb)
   have n1_ := Aside0.mk (Kd.R_elder' (by (with_reducible repeat (apply Kd.R_drew)); exact HO_611001.out) (Kd.R_base ho0) hb)
   have n2_ := Aside0.mk (Kd.R_elder' (by (with_reducible repeat (apply Kd.R_drew)); exact HO_616001.out) (Kd.R_base ho0) hb)
   have n3_ := Aside0.mk (Kd.R_elder' (by (with_reducible repeat (apply Kd.R_drew)); exact HO_622001.out) (Kd.R_base ho0) hb)
   have n4_ := Aside0.mk (Kd.R_elder' (by (with_reducible repeat (apply Kd.R_drew)); exact HO644.out) (Kd.R_base ho0) hb)
   have n5_ := Aside0.mk (Kd.R_lower (Kd.R_new' (Kd.R_new' (Kd.R_new' (Kd.R_new' (Kd.R_new' ho0 (Kd.R_lt (by (with_reducible repeat (apply Kd.R_drew)); exact HO_606001.out))) (Kd.R_lt (by (with_reducible repeat (apply Kd.R_drew)); exact HO_611001.out))) (Kd.R_lt (by (with_reducible repeat (apply Kd.R_drew)); exact HO_616001.out))) (Kd.R_lt (by (with_reducible repeat (apply Kd.R_drew)); exact HO_622001.out))) (Kd.R_lt (by (with_reducible repeat (apply Kd.R_drew)); exact HO644.out))) (below_size (by repeat ((with_reducible exact HB.out)))))
   have n6_ := Aside0.mk (blk_below (g := gb588) (o := .cells #[.int .i64 a0_0, .slice A0_1 l0_1.length c0_1] 24 (0, 0)) (by (with_reducible repeat (refine blk_drew ?_)); exact BK588.out) hb)
   have n7_ := Aside0.mk (blk_below (g := gb589) (o := .cells #[.int .i64 a1_0, .slice A1_1 l1_1.length c1_1] 24 (0, 0)) (by (with_reducible repeat (refine blk_drew ?_)); exact BK589.out) hb)
   have n8_ := Aside0.mk (blk_below (g := gb605) (o := .cells #[.int .i64 t600, .slice Ao42 t601.length co42] 28 (0, 0)) (by (with_reducible repeat (refine blk_drew ?_)); exact BK605.out) hb)
   have n9_ := Aside0.mk (blk_below (g := gb610) (o := .cells #[.int .i64 t606, .slice Ao53 t634.length co53] 28 (0, 0)) (by (with_reducible repeat (refine blk_drew ?_)); exact BK610.out) hb)
   have n10_ := Aside0.mk (blk_below (g := gb615) (o := .cells #[.int .i64 t611, .slice Ao63 t636.length co63] 28 (0, 0)) (by (with_reducible repeat (refine blk_drew ?_)); exact BK615.out) hb)
   have n11_ := Aside0.mk (blk_below (g := gb621) (o := .cells #[.int .i64 t616, .slice Ao73 t617.length co73] 28 (0, 0)) (by (with_reducible repeat (refine blk_drew ?_)); exact BK621.out) hb)
   have n12_ := Aside0.mk (blk_below (g := gb654) (o := .cells #[.int .i64 0, .slice none 0 0] 28 (0, 0)) (by (with_reducible repeat (refine blk_drew ?_)); exact BK654.out) hb)
   have n13_ := Aside0.mk (below_step (by repeat ((with_reducible exact HB.out))) hb)
   clear HO_606001
   clear HO_611001
   clear HO_616001
   clear HO_622001
   clear HO644
   clear BK588
   clear BK589
   clear BK605
   clear BK610
   clear BK615
   clear BK621
   clear BK654
   clear HB
   have HO_606001 := n0_
   have HO_611001 := n1_
   have HO_616001 := n2_
   have HO_622001 := n3_
   have HO644 := n4_
   have HO648 := n5_
   have BK588 := n6_
   have BK589 := n7_
   have BK605 := n8_
   have BK610 := n9_
   have BK615 := n10_
   have BK621 := n11_
   have BK654 := n12_
   have HB := n13_
   clear n0_ n1_ n2_ n3_ n4_ n5_ n6_ n7_ n8_ n9_ n10_ n11_ n12_ n13_
   (try clear hb)
   skip
   skip
   skip
   (try clear ho0)
   obtain ⟨Ao189, co189, eo189⟩ := Kd.R_slice HO644.out
   (subst eo189)
   obtain ⟨Ao190, co190, eo190⟩ := Kd.R_slice HO648.out
   (subst eo190)
   refine hK.out _ _ ⟨(blk_cell BK588.out 0).trans rfl, (blk_cell BK588.out 1).trans rfl, (blk_cell BK589.out 0).trans rfl, (blk_cell BK589.out 1).trans rfl⟩ (fun hHeld => ?_)
   clear hK K
   refine norm_ (a' := ?_) ?_ ?_
   rotate_left
   ·show Act.put _ (some 98) _ = _
    simp only [Act.put, List.setIfInBounds_toArray, List.set_cons_zero, List.set_cons_succ, i64_w, i32_w]
    rfl
   refine one_ (i := 4) (N := some 99) #[true, true, true, true, true, false, false, false, true, false, false] rfl rfl (one_of HT_.out (by kernel_rfl)) (by decide) (fun K hK => ?_)
   refine goes_ Try.func30 (by kernel_rfl) rfl #[.agg #[.int .i64 t641, .slice Ao189 t642.length co189], .agg #[.int .i64 t645, .slice Ao190 t646.length co190]] (by rfl) rfl rfl (by (try simp only [List.map_toArray, List.map_cons, List.map_nil]); rfl) ?_
   with_reducible refine (impl_UnionSpaces.calls kj108 t641 _ _ t642 t645 _ _ t646 t649 t650 t653 _ ?side1 ?side2 ?side3 ?side4 A174.out).mono ?_
   (case side1 => repeat (exact (Kd.R_reads' HO644.out).2.2))
   (case side2 => exact (Kd.R_reads' HO644.out).2.1)
   (case side3 => repeat (exact (Kd.R_reads' HO648.out).2.2))
   (case side4 => exact (Kd.R_reads' HO648.out).2.1)
   rintro e w191 ⟨v651, rfl, ho0, hb⟩
   refine ⟨_, rfl, ?_⟩
   have n0_ := Aside0.mk (Kd.R_elder' (by (with_reducible repeat (apply Kd.R_drew)); exact HO_606001.out) (Kd.R_base ho0) hb)
   have n1_ := Aside0.mk (Kd.R_elder' (by (with_reducible repeat (apply Kd.R_drew)); exact HO_611001.out) (Kd.R_base ho0) hb)
   have n2_ := Aside0.mk (Kd.R_elder' (by (with_reducible repeat (apply Kd.R_drew)); exact HO_616001.out) (Kd.R_base ho0) hb)
   have n3_ := Aside0.mk (Kd.R_elder' (by (with_reducible repeat (apply Kd.R_drew)); exact HO_622001.out) (Kd.R_base ho0) hb)
   have n4_ := Aside0.mk (Kd.R_elder' (by (with_reducible repeat (apply Kd.R_drew)); exact HO644.out) (Kd.R_base ho0) hb)
   have n5_ := Aside0.mk (Kd.R_elder' (by (with_reducible repeat (apply Kd.R_drew)); exact HO648.out) (Kd.R_base ho0) hb)
   have n6_ := Aside0.mk (Kd.R_lower (Kd.R_new' (Kd.R_new' (Kd.R_new' (Kd.R_new' (Kd.R_new' (Kd.R_new' ho0 (Kd.R_lt (by (with_reducible repeat (apply Kd.R_drew)); exact HO_606001.out))) (Kd.R_lt (by (with_reducible repeat (apply Kd.R_drew)); exact HO_611001.out))) (Kd.R_lt (by (with_reducible repeat (apply Kd.R_drew)); exact HO_616001.out))) (Kd.R_lt (by (with_reducible repeat (apply Kd.R_drew)); exact HO_622001.out))) (Kd.R_lt (by (with_reducible repeat (apply Kd.R_drew)); exact HO644.out))) (Kd.R_lt (by (with_reducible repeat (apply Kd.R_drew)); exact HO648.out))) (below_size (by repeat ((with_reducible exact HB.out)))))
   have n7_ := Aside0.mk (blk_below (g := gb588) (o := .cells #[.int .i64 a0_0, .slice A0_1 l0_1.length c0_1] 24 (0, 0)) (by (with_reducible repeat (refine blk_drew ?_)); exact BK588.out) hb)
   have n8_ := Aside0.mk (blk_below (g := gb589) (o := .cells #[.int .i64 a1_0, .slice A1_1 l1_1.length c1_1] 24 (0, 0)) (by (with_reducible repeat (refine blk_drew ?_)); exact BK589.out) hb)
   have n9_ := Aside0.mk (blk_below (g := gb605) (o := .cells #[.int .i64 t600, .slice Ao42 t601.length co42] 28 (0, 0)) (by (with_reducible repeat (refine blk_drew ?_)); exact BK605.out) hb)
   have n10_ := Aside0.mk (blk_below (g := gb610) (o := .cells #[.int .i64 t606, .slice Ao53 t634.length co53] 28 (0, 0)) (by (with_reducible repeat (refine blk_drew ?_)); exact BK610.out) hb)
   have n11_ := Aside0.mk (blk_below (g := gb615) (o := .cells #[.int .i64 t611, .slice Ao63 t636.length co63] 28 (0, 0)) (by (with_reducible repeat (refine blk_drew ?_)); exact BK615.out) hb)
   have n12_ := Aside0.mk (blk_below (g := gb621) (o := .cells #[.int .i64 t616, .slice Ao73 t617.length co73] 28 (0, 0)) (by (with_reducible repeat (refine blk_drew ?_)); exact BK621.out) hb)
   have n13_ := Aside0.mk (blk_below (g := gb654) (o := .cells #[.int .i64 0, .slice none 0 0] 28 (0, 0)) (by (with_reducible repeat (refine blk_drew ?_)); exact BK654.out) hb)
   have n14_ := Aside0.mk (below_step (by repeat ((with_reducible exact HB.out))) hb)
   clear HO_606001
   clear HO_611001
   clear HO_616001
   clear HO_622001
   clear HO644
   clear HO648
   clear BK588
   clear BK589
   clear BK605
   clear BK610
   clear BK615
   clear BK621
   clear BK654
   clear HB
   have HO_606001 := n0_
   have HO_611001 := n1_
   have HO_616001 := n2_
   have HO_622001 := n3_
   have HO644 := n4_
   have HO648 := n5_
   have HO652 := n6_
   have BK588 := n7_
   have BK589 := n8_
   have BK605 := n9_
   have BK610 := n10_
   have BK615 := n11_
   have BK621 := n12_
   have BK654 := n13_
   have HB := n14_
   clear n0_ n1_ n2_ n3_ n4_ n5_ n6_ n7_ n8_ n9_ n10_ n11_ n12_ n13_ n14_
   (try clear hb)
   skip
   skip
   skip
   (try clear ho0)
   refine hK.out _ _ ⟨(blk_cell BK588.out 0).trans rfl, (blk_cell BK588.out 1).trans rfl, (blk_cell BK589.out 0).trans rfl, (blk_cell BK589.out 1).trans rfl⟩ (fun hHeld => ?_)
   clear hK K
   refine norm_ (a' := ?_) ?_ ?_
   rotate_left
   ·show Act.put _ (some 99) _ = _
    simp only [Act.put, List.setIfInBounds_toArray, List.set_cons_zero, List.set_cons_succ, i64_w, i32_w]
    rfl
   refine pure_ (i := 5) (N := some 94) (v := ?_) (a' := ?_) #[true, true, true, true, true, true, false, false, true, false, false] rfl rfl (any_of HT_.out (by kernel_rfl)) (fun _ _ _ h => h) (Or.inl ⟨by rfl, ?_⟩) ?_ ?_
   rotate_left
   ·intro w'
    go_simp
    with_reducible rfl
   rotate_left
   ·simp only [Act.put, List.setIfInBounds_toArray, List.set_cons_zero, List.set_cons_succ, i64_w, i32_w]
    rfl
   refine pure_ (i := 6) (N := some 100) (v := ?_) (a' := ?_) #[true, true, true, true, true, true, true, false, true, false, false] rfl rfl (any_of HT_.out (by kernel_rfl)) (fun _ _ _ h => h) (Or.inl ⟨by rfl, ?_⟩) ?_ ?_
   rotate_left
   ·intro w'
    go_simp
    with_reducible rfl
   rotate_left
   ·simp only [Act.put, List.setIfInBounds_toArray, List.set_cons_zero, List.set_cons_succ, i64_w, i32_w]
    rfl
   refine pure_ (i := 7) (N := some 101) (v := ?_) (a' := ?_) #[true, true, true, true, true, true, true, true, true, false, false] rfl rfl (any_of HT_.out (by kernel_rfl)) (fun _ _ _ h => h) (Or.inl ⟨by rfl, ?_⟩) ?_ ?_
   rotate_left
   ·intro w'
    go_simp
    with_reducible rfl
   rotate_left
   ·simp only [Act.put, List.setIfInBounds_toArray, List.set_cons_zero, List.set_cons_succ, i64_w, i32_w]
    rfl
   exact norm_ (by simp only [putAll, Act.put, List.setIfInBounds_toArray, List.set_cons_zero, List.set_cons_succ]) (hCont (.slice Ao189 t642.length co189, .slice Ao190 t646.length co190, v651, gb654) _ ⟨hHeld, (by (with_reducible repeat (apply Kd.R_drew)); exact Kd.R_mono HO644.out (fun _ hk => ⟨hk.1.2, ⟨hk.2, ⟨hk.1.1.1.1.1.2, ⟨hk.1.1.1.1.2, ⟨hk.1.1.1.2, hk.1.1.2⟩⟩⟩⟩⟩)), (by (with_reducible repeat (apply Kd.R_drew)); exact Kd.R_mono HO648.out (fun _ hk => ⟨hk.1.2, ⟨hk.2, ⟨hk.1.1.1.1.1.2, ⟨hk.1.1.1.1.2, ⟨hk.1.1.1.2, hk.1.1.2⟩⟩⟩⟩⟩)), (by (with_reducible repeat (apply Kd.R_drew)); exact Kd.R_mono HO652.out (fun _ hk => ⟨hk.1.2, ⟨hk.2, ⟨hk.1.1.1.1.1.2, ⟨hk.1.1.1.1.2, ⟨hk.1.1.1.2, hk.1.1.2⟩⟩⟩⟩⟩)), (by (with_reducible repeat (apply Kd.R_drew)); exact Kd.R_mono HO_606001.out (fun _ hk => ⟨hk.1.1.2, ⟨hk.1.2, ⟨hk.2, ⟨hk.1.1.1.1, ⟨hk.1.1.1.2.1, hk.1.1.1.2.2⟩⟩⟩⟩⟩)), (by (with_reducible repeat (apply Kd.R_drew)); exact Kd.R_mono HO_611001.out (fun _ hk => ⟨hk.1.1.2, ⟨hk.1.2, ⟨hk.2, ⟨hk.1.1.1.1, ⟨hk.1.1.1.2.1, hk.1.1.1.2.2⟩⟩⟩⟩⟩)), (by (with_reducible repeat (apply Kd.R_drew)); exact Kd.R_mono HO_616001.out (fun _ hk => ⟨hk.1.1.2, ⟨hk.1.2, ⟨hk.2, ⟨hk.1.1.1.1, ⟨hk.1.1.1.2.1, hk.1.1.1.2.2⟩⟩⟩⟩⟩)), (by (with_reducible repeat (apply Kd.R_drew)); exact Kd.R_mono HO_622001.out (fun _ hk => ⟨hk.1.1.2, ⟨hk.1.2, ⟨hk.2, ⟨hk.1.1.1.1, ⟨hk.1.1.1.2.1, hk.1.1.1.2.2⟩⟩⟩⟩⟩)), (by (with_reducible repeat (refine blk_drew ?_)); exact BK588.out), (by (with_reducible repeat (refine blk_drew ?_)); exact BK589.out), (by (with_reducible repeat (refine blk_drew ?_)); exact BK605.out), (by (with_reducible repeat (refine blk_drew ?_)); exact BK610.out), (by (with_reducible repeat (refine blk_drew ?_)); exact BK615.out), (by (with_reducible repeat (refine blk_drew ?_)); exact BK621.out), (by (with_reducible repeat (refine blk_drew ?_)); exact BK654.out), GW654.out, GE654.out, NB588_654.out, NB654_588.out, NB589_654.out, NB654_589.out, NB605_654.out, NB654_605.out, NB610_654.out, NB654_610.out, NB615_654.out, NB654_615.out, NB621_654.out, NB654_621.out, (by repeat ((with_reducible exact HB.out)))⟩)
 ·skip
  refine box_step ?hg (N := 15) ?hd (cs := #[.int .i64 0, .slice none 0 0]) (t := 28) ?hr ?_; (case hd => rfl); (case hg => rfl); (case hr => (go_simp; done))
  intro gb654 hg w186 hbox hb
  have n0_ := Aside0.mk (Kd.R_below (by (with_reducible repeat (apply Kd.R_drew)); exact HO_606001.out) hb)
  have n1_ := Aside0.mk (Kd.R_below (by (with_reducible repeat (apply Kd.R_drew)); exact HO_611001.out) hb)
  have n2_ := Aside0.mk (Kd.R_below (by (with_reducible repeat (apply Kd.R_drew)); exact HO_616001.out) hb)
  have n3_ := Aside0.mk (Kd.R_below (by (with_reducible repeat (apply Kd.R_drew)); exact HO_622001.out) hb)
  have n4_ := Aside0.mk (blk_below (g := gb588) (o := .cells #[.int .i64 a0_0, .slice A0_1 l0_1.length c0_1] 24 (0, 0)) (by (with_reducible repeat (refine blk_drew ?_)); exact BK588.out) hb)
  have n5_ := Aside0.mk (blk_below (g := gb589) (o := .cells #[.int .i64 a1_0, .slice A1_1 l1_1.length c1_1] 24 (0, 0)) (by (with_reducible repeat (refine blk_drew ?_)); exact BK589.out) hb)
  have n6_ := Aside0.mk (blk_below (g := gb605) (o := .cells #[.int .i64 t600, .slice Ao42 t601.length co42] 28 (0, 0)) (by (with_reducible repeat (refine blk_drew ?_)); exact BK605.out) hb)
  have n7_ := Aside0.mk (blk_below (g := gb610) (o := .cells #[.int .i64 t606, .slice Ao53 t634.length co53] 28 (0, 0)) (by (with_reducible repeat (refine blk_drew ?_)); exact BK610.out) hb)
  have n8_ := Aside0.mk (blk_below (g := gb615) (o := .cells #[.int .i64 t611, .slice Ao63 t636.length co63] 28 (0, 0)) (by (with_reducible repeat (refine blk_drew ?_)); exact BK615.out) hb)
  have n9_ := Aside0.mk (blk_below (g := gb621) (o := .cells #[.int .i64 t616, .slice Ao73 t617.length co73] 28 (0, 0)) (by (with_reducible repeat (refine blk_drew ?_)); exact BK621.out) hb)
  have n10_ := Aside0.mk (below_step (by repeat ((with_reducible exact HB.out))) hb)
  have n11_ := Aside0.mk (hbox)
  have n12_ := Aside0.mk ((by rw [hg]; exact (below_size (by repeat ((with_reducible exact HB.out)))) : w.heap.size ≤ gb654))
  have n13_ := Aside0.mk ((by rw [hg]; exact (below_size (by repeat ((with_reducible exact HB.out)))) : w.heap.size ≤ gb654))
  have n14_ := Aside0.mk ((by rw [hg]; exact Nat.ne_of_lt (blk_lt (g := gb588) (o := .cells #[.int .i64 a0_0, .slice A0_1 l0_1.length c0_1] 24 (0, 0)) (by (with_reducible repeat (refine blk_drew ?_)); exact BK588.out)) : gb588 ≠ gb654))
  have n15_ := Aside0.mk ((by rw [hg]; exact Nat.ne_of_gt (blk_lt (g := gb588) (o := .cells #[.int .i64 a0_0, .slice A0_1 l0_1.length c0_1] 24 (0, 0)) (by (with_reducible repeat (refine blk_drew ?_)); exact BK588.out)) : gb654 ≠ gb588))
  have n16_ := Aside0.mk ((by rw [hg]; exact Nat.ne_of_lt (blk_lt (g := gb589) (o := .cells #[.int .i64 a1_0, .slice A1_1 l1_1.length c1_1] 24 (0, 0)) (by (with_reducible repeat (refine blk_drew ?_)); exact BK589.out)) : gb589 ≠ gb654))
  have n17_ := Aside0.mk ((by rw [hg]; exact Nat.ne_of_gt (blk_lt (g := gb589) (o := .cells #[.int .i64 a1_0, .slice A1_1 l1_1.length c1_1] 24 (0, 0)) (by (with_reducible repeat (refine blk_drew ?_)); exact BK589.out)) : gb654 ≠ gb589))
  have n18_ := Aside0.mk ((by rw [hg]; exact Nat.ne_of_lt (blk_lt (g := gb605) (o := .cells #[.int .i64 t600, .slice Ao42 t601.length co42] 28 (0, 0)) (by (with_reducible repeat (refine blk_drew ?_)); exact BK605.out)) : gb605 ≠ gb654))
  have n19_ := Aside0.mk ((by rw [hg]; exact Nat.ne_of_gt (blk_lt (g := gb605) (o := .cells #[.int .i64 t600, .slice Ao42 t601.length co42] 28 (0, 0)) (by (with_reducible repeat (refine blk_drew ?_)); exact BK605.out)) : gb654 ≠ gb605))
  have n20_ := Aside0.mk ((by rw [hg]; exact Nat.ne_of_lt (blk_lt (g := gb610) (o := .cells #[.int .i64 t606, .slice Ao53 t634.length co53] 28 (0, 0)) (by (with_reducible repeat (refine blk_drew ?_)); exact BK610.out)) : gb610 ≠ gb654))
  have n21_ := Aside0.mk ((by rw [hg]; exact Nat.ne_of_gt (blk_lt (g := gb610) (o := .cells #[.int .i64 t606, .slice Ao53 t634.length co53] 28 (0, 0)) (by (with_reducible repeat (refine blk_drew ?_)); exact BK610.out)) : gb654 ≠ gb610))
  have n22_ := Aside0.mk ((by rw [hg]; exact Nat.ne_of_lt (blk_lt (g := gb615) (o := .cells #[.int .i64 t611, .slice Ao63 t636.length co63] 28 (0, 0)) (by (with_reducible repeat (refine blk_drew ?_)); exact BK615.out)) : gb615 ≠ gb654))
  have n23_ := Aside0.mk ((by rw [hg]; exact Nat.ne_of_gt (blk_lt (g := gb615) (o := .cells #[.int .i64 t611, .slice Ao63 t636.length co63] 28 (0, 0)) (by (with_reducible repeat (refine blk_drew ?_)); exact BK615.out)) : gb654 ≠ gb615))
  have n24_ := Aside0.mk ((by rw [hg]; exact Nat.ne_of_lt (blk_lt (g := gb621) (o := .cells #[.int .i64 t616, .slice Ao73 t617.length co73] 28 (0, 0)) (by (with_reducible repeat (refine blk_drew ?_)); exact BK621.out)) : gb621 ≠ gb654))
  have n25_ := Aside0.mk ((by rw [hg]; exact Nat.ne_of_gt (blk_lt (g := gb621) (o := .cells #[.int .i64 t616, .slice Ao73 t617.length co73] 28 (0, 0)) (by (with_reducible repeat (refine blk_drew ?_)); exact BK621.out)) : gb654 ≠ gb621))
  clear HO_606001
  clear HO_611001
  clear HO_616001
  clear HO_622001
  clear BK588
  clear BK589
  clear BK605
  clear BK610
  clear BK615
  clear BK621
  clear HB
  have HO_606001 := n0_
  have HO_611001 := n1_
  have HO_616001 := n2_
  have HO_622001 := n3_
  have BK588 := n4_
  have BK589 := n5_
  have BK605 := n6_
  have BK610 := n7_
  have BK615 := n8_
  have BK621 := n9_
  have HB := n10_
  have BK654 := n11_
  have GW654 := n12_
  have GE654 := n13_
  have NB588_654 := n14_
  have NB654_588 := n15_
  have NB589_654 := n16_
  have NB654_589 := n17_
  have NB605_654 := n18_
  have NB654_605 := n19_
  have NB610_654 := n20_
  have NB654_610 := n21_
  have NB615_654 := n22_
  have NB654_615 := n23_
  have NB621_654 := n24_
  have NB654_621 := n25_
  clear n0_ n1_ n2_ n3_ n4_ n5_ n6_ n7_ n8_ n9_ n10_ n11_ n12_ n13_ n14_ n15_ n16_ n17_ n18_ n19_ n20_ n21_ n22_ n23_ n24_ n25_
  clear hb hbox hg
  refine hK.out _ _ ⟨(blk_cell BK588.out 0).trans rfl, (blk_cell BK588.out 1).trans rfl, (blk_cell BK589.out 0).trans rfl, (blk_cell BK589.out 1).trans rfl⟩ (fun hHeld => ?_)
  clear hK K
  refine norm_ (a' := ?_) ?_ ?_
  rotate_left
  ·show Act.put _ (some 15) _ = _
   simp only [Act.put, List.setIfInBounds_toArray, List.set_cons_zero, List.set_cons_succ, i64_w, i32_w]
   rfl
  refine one_ (i := 1) (N := some 96) #[true, true, true, false, false, false, false, false, true, false, false] rfl rfl (one_of HT_.out (by kernel_rfl)) (by decide) (fun K hK => ?_)
  refine goes_ Try.func12 (by kernel_rfl) rfl #[.agg #[.int .i64 a0_0, .slice A0_1 l0_1.length c0_1]] (by rfl) rfl rfl (by (try simp only [List.map_toArray, List.map_cons, List.map_nil]); rfl) ?_
  with_reducible refine (laws_toSpace.calls kj108 a0_0 _ _ l0_1 t641 t642 _ ?side1 ?side2 A172.out).mono ?_
  (case side1 => repeat (exact (Kd.C_below HR0_1.out HB.out)))
  (case side2 => exact HC0_1.out)
  rintro e w187 ⟨v643, rfl, ho0, hb⟩
  refine ⟨_, rfl, ?_⟩
  have n0_ := Aside0.mk (Kd.R_elder' (by (with_reducible repeat (apply Kd.R_drew)); exact HO_606001.out) (Kd.R_base ho0) hb)
  have n1_ := Aside0.mk (Kd.R_elder' (by (with_reducible repeat (apply Kd.R_drew)); exact HO_611001.out) (Kd.R_base ho0) hb)
  have n2_ := Aside0.mk (Kd.R_elder' (by (with_reducible repeat (apply Kd.R_drew)); exact HO_616001.out) (Kd.R_base ho0) hb)
  have n3_ := Aside0.mk (Kd.R_elder' (by (with_reducible repeat (apply Kd.R_drew)); exact HO_622001.out) (Kd.R_base ho0) hb)
  have n4_ := Aside0.mk (Kd.R_lower (Kd.R_new' (Kd.R_new' (Kd.R_new' (Kd.R_new' ho0 (Kd.R_lt (by (with_reducible repeat (apply Kd.R_drew)); exact HO_606001.out))) (Kd.R_lt (by (with_reducible repeat (apply Kd.R_drew)); exact HO_611001.out))) (Kd.R_lt (by (with_reducible repeat (apply Kd.R_drew)); exact HO_616001.out))) (Kd.R_lt (by (with_reducible repeat (apply Kd.R_drew)); exact HO_622001.out))) (below_size (by repeat ((with_reducible exact HB.out)))))
  have n5_ := Aside0.mk (blk_below (g := gb588) (o := .cells #[.int .i64 a0_0, .slice A0_1 l0_1.length c0_1] 24 (0, 0)) (by (with_reducible repeat (refine blk_drew ?_)); exact BK588.out) hb)
  have n6_ := Aside0.mk (blk_below (g := gb589) (o := .cells #[.int .i64 a1_0, .slice A1_1 l1_1.length c1_1] 24 (0, 0)) (by (with_reducible repeat (refine blk_drew ?_)); exact BK589.out) hb)
  have n7_ := Aside0.mk (blk_below (g := gb605) (o := .cells #[.int .i64 t600, .slice Ao42 t601.length co42] 28 (0, 0)) (by (with_reducible repeat (refine blk_drew ?_)); exact BK605.out) hb)
  have n8_ := Aside0.mk (blk_below (g := gb610) (o := .cells #[.int .i64 t606, .slice Ao53 t634.length co53] 28 (0, 0)) (by (with_reducible repeat (refine blk_drew ?_)); exact BK610.out) hb)
  have n9_ := Aside0.mk (blk_below (g := gb615) (o := .cells #[.int .i64 t611, .slice Ao63 t636.length co63] 28 (0, 0)) (by (with_reducible repeat (refine blk_drew ?_)); exact BK615.out) hb)
  have n10_ := Aside0.mk (blk_below (g := gb621) (o := .cells #[.int .i64 t616, .slice Ao73 t617.length co73] 28 (0, 0)) (by (with_reducible repeat (refine blk_drew ?_)); exact BK621.out) hb)
  have n11_ := Aside0.mk (blk_below (g := gb654) (o := .cells #[.int .i64 0, .slice none 0 0] 28 (0, 0)) (by (with_reducible repeat (refine blk_drew ?_)); exact BK654.out) hb)
  have n12_ := Aside0.mk (below_step (by repeat ((with_reducible exact HB.out))) hb)
  clear HO_606001
  clear HO_611001
  clear HO_616001
  clear HO_622001
  clear BK588
  clear BK589
  clear BK605
  clear BK610
  clear BK615
  clear BK621
  clear BK654
  clear HB
  have HO_606001 := n0_
  have HO_611001 := n1_
  have HO_616001 := n2_
  have HO_622001 := n3_
  have HO644 := n4_
  have BK588 := n5_
  have BK589 := n6_
  have BK605 := n7_
  have BK610 := n8_
  have BK615 := n9_
  have BK621 := n10_
  have BK654 := n11_
  have HB := n12_
  clear n0_ n1_ n2_ n3_ n4_ n5_ n6_ n7_ n8_ n9_ n10_ n11_ n12_
  (try clear hb)
  skip
  skip
  skip
  (try clear ho0)
  refine hK.out _ _ ⟨(blk_cell BK588.out 0).trans rfl, (blk_cell BK588.out 1).trans rfl, (blk_cell BK589.out 0).trans rfl, (blk_cell BK589.out 1).trans rfl⟩ (fun hHeld => ?_)
  clear hK K
  refine norm_ (a' := ?_) ?_ ?_
  rotate_left
  ·show Act.put _ (some 96) _ = _
   simp only [Act.put, List.setIfInBounds_toArray, List.set_cons_zero, List.set_cons_succ, i64_w, i32_w]
   rfl
  refine one_ (i := 3) (N := some 98) #[true, true, true, true, false, false, false, false, true, false, false] rfl rfl (one_of HT_.out (by kernel_rfl)) (by decide) (fun K hK => ?_)
  refine goes_ Try.func12 (by kernel_rfl) rfl #[.agg #[.int .i64 a1_0, .slice A1_1 l1_1.length c1_1]] (by rfl) rfl rfl (by (try simp only [List.map_toArray, List.map_cons, List.map_nil]); rfl) ?_
  with_reducible refine (laws_toSpace.calls kj108 a1_0 _ _ l1_1 t645 t646 _ ?side1 ?side2 A173.out).mono ?_
  (case side1 => repeat (exact (Kd.C_below HR1_1.out HB.out)))
  (case side2 => exact HC1_1.out)
  rintro e w188 ⟨v647, rfl, ho0, hb⟩
  refine ⟨_, rfl, ?_⟩
  have n0_ := Aside0.mk (Kd.R_elder' (by (with_reducible repeat (apply Kd.R_drew)); exact HO_606001.out) (Kd.R_base ho0) hb)
  have n1_ := Aside0.mk (Kd.R_elder' (by (with_reducible repeat (apply Kd.R_drew)); exact HO_611001.out) (Kd.R_base ho0) hb)
  have n2_ := Aside0.mk (Kd.R_elder' (by (with_reducible repeat (apply Kd.R_drew)); exact HO_616001.out) (Kd.R_base ho0) hb)
  have n3_ := Aside0.mk (Kd.R_elder' (by (with_reducible repeat (apply Kd.R_drew)); exact HO_622001.out) (Kd.R_base ho0) hb)
  have n4_ := Aside0.mk (Kd.R_elder' (by (with_reducible repeat (apply Kd.R_drew)); exact HO644.out) (Kd.R_base ho0) hb)
  have n5_ := Aside0.mk (Kd.R_lower (Kd.R_new' (Kd.R_new' (Kd.R_new' (Kd.R_new' (Kd.R_new' ho0 (Kd.R_lt (by (with_reducible repeat (apply Kd.R_drew)); exact HO_606001.out))) (Kd.R_lt (by (with_reducible repeat (apply Kd.R_drew)); exact HO_611001.out))) (Kd.R_lt (by (with_reducible repeat (apply Kd.R_drew)); exact HO_616001.out))) (Kd.R_lt (by (with_reducible repeat (apply Kd.R_drew)); exact HO_622001.out))) (Kd.R_lt (by (with_reducible repeat (apply Kd.R_drew)); exact HO644.out))) (below_size (by repeat ((with_reducible exact HB.out)))))
  have n6_ := Aside0.mk (blk_below (g := gb588) (o := .cells #[.int .i64 a0_0, .slice A0_1 l0_1.length c0_1] 24 (0, 0)) (by (with_reducible repeat (refine blk_drew ?_)); exact BK588.out) hb)
  have n7_ := Aside0.mk (blk_below (g := gb589) (o := .cells #[.int .i64 a1_0, .slice A1_1 l1_1.length c1_1] 24 (0, 0)) (by (with_reducible repeat (refine blk_drew ?_)); exact BK589.out) hb)
  have n8_ := Aside0.mk (blk_below (g := gb605) (o := .cells #[.int .i64 t600, .slice Ao42 t601.length co42] 28 (0, 0)) (by (with_reducible repeat (refine blk_drew ?_)); exact BK605.out) hb)
  have n9_ := Aside0.mk (blk_below (g := gb610) (o := .cells #[.int .i64 t606, .slice Ao53 t634.length co53] 28 (0, 0)) (by (with_reducible repeat (refine blk_drew ?_)); exact BK610.out) hb)
  have n10_ := Aside0.mk (blk_below (g := gb615) (o := .cells #[.int .i64 t611, .slice Ao63 t636.length co63] 28 (0, 0)) (by (with_reducible repeat (refine blk_drew ?_)); exact BK615.out) hb)
  have n11_ := Aside0.mk (blk_below (g := gb621) (o := .cells #[.int .i64 t616, .slice Ao73 t617.length co73] 28 (0, 0)) (by (with_reducible repeat (refine blk_drew ?_)); exact BK621.out) hb)
  have n12_ := Aside0.mk (blk_below (g := gb654) (o := .cells #[.int .i64 0, .slice none 0 0] 28 (0, 0)) (by (with_reducible repeat (refine blk_drew ?_)); exact BK654.out) hb)
  have n13_ := Aside0.mk (below_step (by repeat ((with_reducible exact HB.out))) hb)
  clear HO_606001
  clear HO_611001
  clear HO_616001
  clear HO_622001
  clear HO644
  clear BK588
  clear BK589
  clear BK605
  clear BK610
  clear BK615
  clear BK621
  clear BK654
  clear HB
  have HO_606001 := n0_
  have HO_611001 := n1_
  have HO_616001 := n2_
  have HO_622001 := n3_
  have HO644 := n4_
  have HO648 := n5_
  have BK588 := n6_
  have BK589 := n7_
  have BK605 := n8_
  have BK610 := n9_
  have BK615 := n10_
  have BK621 := n11_
  have BK654 := n12_
  have HB := n13_
  clear n0_ n1_ n2_ n3_ n4_ n5_ n6_ n7_ n8_ n9_ n10_ n11_ n12_ n13_
  (try clear hb)
  skip
  skip
  skip
  (try clear ho0)
  obtain ⟨Ao189, co189, eo189⟩ := Kd.R_slice HO644.out
  (subst eo189)
  obtain ⟨Ao190, co190, eo190⟩ := Kd.R_slice HO648.out
  (subst eo190)
  refine hK.out _ _ ⟨(blk_cell BK588.out 0).trans rfl, (blk_cell BK588.out 1).trans rfl, (blk_cell BK589.out 0).trans rfl, (blk_cell BK589.out 1).trans rfl⟩ (fun hHeld => ?_)
  clear hK K
  refine norm_ (a' := ?_) ?_ ?_
  rotate_left
  ·show Act.put _ (some 98) _ = _
   simp only [Act.put, List.setIfInBounds_toArray, List.set_cons_zero, List.set_cons_succ, i64_w, i32_w]
   rfl
  refine one_ (i := 4) (N := some 99) #[true, true, true, true, true, false, false, false, true, false, false] rfl rfl (one_of HT_.out (by kernel_rfl)) (by decide) (fun K hK => ?_)
  refine goes_ Try.func30 (by kernel_rfl) rfl #[.agg #[.int .i64 t641, .slice Ao189 t642.length co189], .agg #[.int .i64 t645, .slice Ao190 t646.length co190]] (by rfl) rfl rfl (by (try simp only [List.map_toArray, List.map_cons, List.map_nil]); rfl) ?_
  with_reducible refine (impl_UnionSpaces.calls kj108 t641 _ _ t642 t645 _ _ t646 t649 t650 t653 _ ?side1 ?side2 ?side3 ?side4 A174.out).mono ?_
  (case side1 => repeat (exact (Kd.R_reads' HO644.out).2.2))
  (case side2 => exact (Kd.R_reads' HO644.out).2.1)
  (case side3 => repeat (exact (Kd.R_reads' HO648.out).2.2))
  (case side4 => exact (Kd.R_reads' HO648.out).2.1)
  rintro e w191 ⟨v651, rfl, ho0, hb⟩
  refine ⟨_, rfl, ?_⟩
  have n0_ := Aside0.mk (Kd.R_elder' (by (with_reducible repeat (apply Kd.R_drew)); exact HO_606001.out) (Kd.R_base ho0) hb)
  have n1_ := Aside0.mk (Kd.R_elder' (by (with_reducible repeat (apply Kd.R_drew)); exact HO_611001.out) (Kd.R_base ho0) hb)
  have n2_ := Aside0.mk (Kd.R_elder' (by (with_reducible repeat (apply Kd.R_drew)); exact HO_616001.out) (Kd.R_base ho0) hb)
  have n3_ := Aside0.mk (Kd.R_elder' (by (with_reducible repeat (apply Kd.R_drew)); exact HO_622001.out) (Kd.R_base ho0) hb)
  have n4_ := Aside0.mk (Kd.R_elder' (by (with_reducible repeat (apply Kd.R_drew)); exact HO644.out) (Kd.R_base ho0) hb)
  have n5_ := Aside0.mk (Kd.R_elder' (by (with_reducible repeat (apply Kd.R_drew)); exact HO648.out) (Kd.R_base ho0) hb)
  have n6_ := Aside0.mk (Kd.R_lower (Kd.R_new' (Kd.R_new' (Kd.R_new' (Kd.R_new' (Kd.R_new' (Kd.R_new' ho0 (Kd.R_lt (by (with_reducible repeat (apply Kd.R_drew)); exact HO_606001.out))) (Kd.R_lt (by (with_reducible repeat (apply Kd.R_drew)); exact HO_611001.out))) (Kd.R_lt (by (with_reducible repeat (apply Kd.R_drew)); exact HO_616001.out))) (Kd.R_lt (by (with_reducible repeat (apply Kd.R_drew)); exact HO_622001.out))) (Kd.R_lt (by (with_reducible repeat (apply Kd.R_drew)); exact HO644.out))) (Kd.R_lt (by (with_reducible repeat (apply Kd.R_drew)); exact HO648.out))) (below_size (by repeat ((with_reducible exact HB.out)))))
  have n7_ := Aside0.mk (blk_below (g := gb588) (o := .cells #[.int .i64 a0_0, .slice A0_1 l0_1.length c0_1] 24 (0, 0)) (by (with_reducible repeat (refine blk_drew ?_)); exact BK588.out) hb)
  have n8_ := Aside0.mk (blk_below (g := gb589) (o := .cells #[.int .i64 a1_0, .slice A1_1 l1_1.length c1_1] 24 (0, 0)) (by (with_reducible repeat (refine blk_drew ?_)); exact BK589.out) hb)
  have n9_ := Aside0.mk (blk_below (g := gb605) (o := .cells #[.int .i64 t600, .slice Ao42 t601.length co42] 28 (0, 0)) (by (with_reducible repeat (refine blk_drew ?_)); exact BK605.out) hb)
  have n10_ := Aside0.mk (blk_below (g := gb610) (o := .cells #[.int .i64 t606, .slice Ao53 t634.length co53] 28 (0, 0)) (by (with_reducible repeat (refine blk_drew ?_)); exact BK610.out) hb)
  have n11_ := Aside0.mk (blk_below (g := gb615) (o := .cells #[.int .i64 t611, .slice Ao63 t636.length co63] 28 (0, 0)) (by (with_reducible repeat (refine blk_drew ?_)); exact BK615.out) hb)
  have n12_ := Aside0.mk (blk_below (g := gb621) (o := .cells #[.int .i64 t616, .slice Ao73 t617.length co73] 28 (0, 0)) (by (with_reducible repeat (refine blk_drew ?_)); exact BK621.out) hb)
  have n13_ := Aside0.mk (blk_below (g := gb654) (o := .cells #[.int .i64 0, .slice none 0 0] 28 (0, 0)) (by (with_reducible repeat (refine blk_drew ?_)); exact BK654.out) hb)
  have n14_ := Aside0.mk (below_step (by repeat ((with_reducible exact HB.out))) hb)
  clear HO_606001
  clear HO_611001
  clear HO_616001
  clear HO_622001
  clear HO644
  clear HO648
  clear BK588
  clear BK589
  clear BK605
  clear BK610
  clear BK615
  clear BK621
  clear BK654
  clear HB
  have HO_606001 := n0_
  have HO_611001 := n1_
  have HO_616001 := n2_
  have HO_622001 := n3_
  have HO644 := n4_
  have HO648 := n5_
  have HO652 := n6_
  have BK588 := n7_
  have BK589 := n8_
  have BK605 := n9_
  have BK610 := n10_
  have BK615 := n11_
  have BK621 := n12_
  have BK654 := n13_
  have HB := n14_
  clear n0_ n1_ n2_ n3_ n4_ n5_ n6_ n7_ n8_ n9_ n10_ n11_ n12_ n13_ n14_
  (try clear hb)
  skip
  skip
  skip
  (try clear ho0)
  refine hK.out _ _ ⟨(blk_cell BK588.out 0).trans rfl, (blk_cell BK588.out 1).trans rfl, (blk_cell BK589.out 0).trans rfl, (blk_cell BK589.out 1).trans rfl⟩ (fun hHeld => ?_)
  clear hK K
  refine norm_ (a' := ?_) ?_ ?_
  rotate_left
  ·show Act.put _ (some 99) _ = _
   simp only [Act.put, List.setIfInBounds_toArray, List.set_cons_zero, List.set_cons_succ, i64_w, i32_w]
   rfl
  refine pure_ (i := 5) (N := some 94) (v := ?_) (a' := ?_) #[true, true, true, true, true, true, false, false, true, false, false] rfl rfl (any_of HT_.out (by kernel_rfl)) (fun _ _ _ h => h) (Or.inl ⟨by rfl, ?_⟩) ?_ ?_
  rotate_left
  ·intro w'
   go_simp
   with_reducible rfl
  rotate_left
  ·simp only [Act.put, List.setIfInBounds_toArray, List.set_cons_zero, List.set_cons_succ, i64_w, i32_w]
   rfl
  refine pure_ (i := 6) (N := some 100) (v := ?_) (a' := ?_) #[true, true, true, true, true, true, true, false, true, false, false] rfl rfl (any_of HT_.out (by kernel_rfl)) (fun _ _ _ h => h) (Or.inl ⟨by rfl, ?_⟩) ?_ ?_
  rotate_left
  ·intro w'
   go_simp
   with_reducible rfl
  rotate_left
  ·simp only [Act.put, List.setIfInBounds_toArray, List.set_cons_zero, List.set_cons_succ, i64_w, i32_w]
   rfl
  refine pure_ (i := 7) (N := some 101) (v := ?_) (a' := ?_) #[true, true, true, true, true, true, true, true, true, false, false] rfl rfl (any_of HT_.out (by kernel_rfl)) (fun _ _ _ h => h) (Or.inl ⟨by rfl, ?_⟩) ?_ ?_
  rotate_left
  ·intro w'
   go_simp
   with_reducible rfl
  rotate_left
  ·simp only [Act.put, List.setIfInBounds_toArray, List.set_cons_zero, List.set_cons_succ, i64_w, i32_w]
   rfl
  exact norm_ (by simp only [putAll, Act.put, List.setIfInBounds_toArray, List.set_cons_zero, List.set_cons_succ]) (hCont (.slice Ao189 t642.length co189, .slice Ao190 t646.length co190, v651, gb654) _ ⟨hHeld, (by (with_reducible repeat (apply Kd.R_drew)); exact Kd.R_mono HO644.out (fun _ hk => ⟨hk.1.2, ⟨hk.2, ⟨hk.1.1.1.1.1.2, ⟨hk.1.1.1.1.2, ⟨hk.1.1.1.2, hk.1.1.2⟩⟩⟩⟩⟩)), (by (with_reducible repeat (apply Kd.R_drew)); exact Kd.R_mono HO648.out (fun _ hk => ⟨hk.1.2, ⟨hk.2, ⟨hk.1.1.1.1.1.2, ⟨hk.1.1.1.1.2, ⟨hk.1.1.1.2, hk.1.1.2⟩⟩⟩⟩⟩)), (by (with_reducible repeat (apply Kd.R_drew)); exact Kd.R_mono HO652.out (fun _ hk => ⟨hk.1.2, ⟨hk.2, ⟨hk.1.1.1.1.1.2, ⟨hk.1.1.1.1.2, ⟨hk.1.1.1.2, hk.1.1.2⟩⟩⟩⟩⟩)), (by (with_reducible repeat (apply Kd.R_drew)); exact Kd.R_mono HO_606001.out (fun _ hk => ⟨hk.1.1.2, ⟨hk.1.2, ⟨hk.2, ⟨hk.1.1.1.1, ⟨hk.1.1.1.2.1, hk.1.1.1.2.2⟩⟩⟩⟩⟩)), (by (with_reducible repeat (apply Kd.R_drew)); exact Kd.R_mono HO_611001.out (fun _ hk => ⟨hk.1.1.2, ⟨hk.1.2, ⟨hk.2, ⟨hk.1.1.1.1, ⟨hk.1.1.1.2.1, hk.1.1.1.2.2⟩⟩⟩⟩⟩)), (by (with_reducible repeat (apply Kd.R_drew)); exact Kd.R_mono HO_616001.out (fun _ hk => ⟨hk.1.1.2, ⟨hk.1.2, ⟨hk.2, ⟨hk.1.1.1.1, ⟨hk.1.1.1.2.1, hk.1.1.1.2.2⟩⟩⟩⟩⟩)), (by (with_reducible repeat (apply Kd.R_drew)); exact Kd.R_mono HO_622001.out (fun _ hk => ⟨hk.1.1.2, ⟨hk.1.2, ⟨hk.2, ⟨hk.1.1.1.1, ⟨hk.1.1.1.2.1, hk.1.1.1.2.2⟩⟩⟩⟩⟩)), (by (with_reducible repeat (refine blk_drew ?_)); exact BK588.out), (by (with_reducible repeat (refine blk_drew ?_)); exact BK589.out), (by (with_reducible repeat (refine blk_drew ?_)); exact BK605.out), (by (with_reducible repeat (refine blk_drew ?_)); exact BK610.out), (by (with_reducible repeat (refine blk_drew ?_)); exact BK615.out), (by (with_reducible repeat (refine blk_drew ?_)); exact BK621.out), (by (with_reducible repeat (refine blk_drew ?_)); exact BK654.out), GW654.out, GE654.out, NB588_654.out, NB654_588.out, NB589_654.out, NB654_589.out, NB605_654.out, NB654_605.out, NB610_654.out, NB654_610.out, NB615_654.out, NB654_615.out, NB621_654.out, NB654_621.out, (by repeat ((with_reducible exact HB.out)))⟩)
end Go.Proofs.Ytekllaaohagefaa.P
