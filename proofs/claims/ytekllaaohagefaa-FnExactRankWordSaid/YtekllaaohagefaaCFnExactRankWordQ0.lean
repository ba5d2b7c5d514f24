/- Plain lemmas of this session: whole numbers, bits, lists; no program in sight. Conditions: as each theorem states. -/
import Derived.Test.YtekllaaohagefaaCFnExactRankWordP4
namespace Go.Proofs.Ytekllaaohagefaa.Q
open Go.RowKit Go.Proofs.YtekllaaohagefaaW.PrintWords Go.Proofs.YtekllaaohagefaaW.PrintLast Go.Proofs.YtekllaaohagefaaW.PrintMore
set_option linter.unusedVariables false

theorem w64 {x : Int} (h0 : -9223372036854775808 ≤ x) (h1 : x < 9223372036854775808) : wrap64 x = x := by unfold wrap64; omega
theorem wi64 {x : Int} (h0 : -9223372036854775808 ≤ x) (h1 : x < 9223372036854775808) : IntKind.i64.wrap x = x := by rw [IntKind.wrap_i64]; omega

/-- What one set has and another one has not. -/
def andn (a b : Nat) : Nat := a ^^^ (a &&& b)
theorem testBit_andn (a b i : Nat) : (andn a b).testBit i = (a.testBit i && !b.testBit i) := by
  unfold andn; rw [Nat.testBit_xor, Nat.testBit_and]; cases a.testBit i <;> cases b.testBit i <;> rfl
theorem andn_le (a b : Nat) : andn a b ≤ a := by
  have e : a &&& andn a b = andn a b := by
    apply Nat.eq_of_testBit_eq; intro i
    rw [Nat.testBit_and, testBit_andn]; cases a.testBit i <;> cases b.testBit i <;> rfl
  rw [← e]; exact Nat.and_le_left
theorem andn_lt {a b m : Nat} (h : a < m) : andn a b < m := Nat.lt_of_le_of_lt (andn_le a b) h

theorem p62 : (2 : Nat) ^ 62 = 4611686018427387904 := by decide
theorem ofInt_nat {a : Nat} (h : a < 2 ^ 62) : (BitVec.ofInt IntKind.i64.bits (a : Int)).toNat = a := by
  rw [BitVec.ofInt_natCast, BitVec.toNat_ofNat]; exact Nat.mod_eq_of_lt (Nat.lt_trans h (by decide))
theorem cast62 {a : Nat} (h : a < 2 ^ 62) : IntKind.i64.wrap (a : Int) = a := by
  rw [p62] at h
  exact wi64 (by omega) (by omega)
theorem bAnd {a b : Nat} (ha : a < 2 ^ 62) (hb : b < 2 ^ 62) : Go.bits .and .i64 (a : Int) (b : Int) = ((a &&& b : Nat) : Int) := by
  simp only [Go.bits, BitVec.toNat_and, ofInt_nat ha, ofInt_nat hb]
  exact cast62 (Nat.and_lt_two_pow _ hb)
theorem bOr {a b : Nat} (ha : a < 2 ^ 62) (hb : b < 2 ^ 62) : Go.bits .or .i64 (a : Int) (b : Int) = ((a ||| b : Nat) : Int) := by
  simp only [Go.bits, BitVec.toNat_or, ofInt_nat ha, ofInt_nat hb]
  exact cast62 (Nat.or_lt_two_pow ha hb)
theorem bXor {a b : Nat} (ha : a < 2 ^ 62) (hb : b < 2 ^ 62) : Go.bits .xor .i64 (a : Int) (b : Int) = ((a ^^^ b : Nat) : Int) := by
  simp only [Go.bits, BitVec.toNat_xor, ofInt_nat ha, ofInt_nat hb]
  exact cast62 (Nat.xor_lt_two_pow ha hb)
theorem bv_andn {n : Nat} (hn : n = 64) {a b : Nat} (ha : a < 2 ^ 62) (hb : b < 2 ^ 62) : (BitVec.ofInt n (a : Int) &&& ~~~ BitVec.ofInt n (b : Int)).toNat = andn a b := by
  subst hn
  have h0 : ∀ c : Nat, c < 2 ^ 62 → (BitVec.ofInt 64 (c : Int)).toNat = c := fun c hc => by
    rw [BitVec.ofInt_natCast, BitVec.toNat_ofNat]; exact Nat.mod_eq_of_lt (Nat.lt_trans hc (by decide))
  apply Nat.eq_of_testBit_eq
  intro i
  have h1 : (BitVec.ofInt 64 (a : Int)).getLsbD i = a.testBit i := by rw [← BitVec.testBit_toNat, h0 a ha]
  have h2 : (BitVec.ofInt 64 (b : Int)).getLsbD i = b.testBit i := by rw [← BitVec.testBit_toNat, h0 b hb]
  rw [BitVec.testBit_toNat, BitVec.getLsbD_and, BitVec.getLsbD_not, h1, h2, testBit_andn]
  by_cases hi : i < 64
  · simp [hi]
  · have : a.testBit i = false := Nat.testBit_lt_two_pow (Nat.lt_of_lt_of_le ha (Nat.pow_le_pow_right (by decide) (by omega)))
    simp [this]
theorem bAndn {a b : Nat} (ha : a < 2 ^ 62) (hb : b < 2 ^ 62) : Go.bits .andNot .i64 (a : Int) (b : Int) = ((andn a b : Nat) : Int) :=
  (congrArg (fun z : Nat => IntKind.i64.wrap (z : Int)) (bv_andn rfl ha hb)).trans (cast62 (andn_lt ha))

theorem shl1 {n : Nat} (h : n ≤ 61) : shl .i64 1 (n : Int) = ((2 ^ n : Nat) : Int) := by
  unfold shl
  rw [Int.toNat_natCast, show IntKind.i64.bits = 64 from rfl, Nat.min_eq_left (by omega), Int.one_mul]
  have e : (2 : Int) ^ n = ((2 ^ n : Nat) : Int) := by simp
  rw [e]
  exact cast62 (Nat.pow_lt_pow_right (by decide) (by omega))
theorem pow_lt_128 {i : Nat} (h : i < 7) : 2 ^ i < 128 := by
  have : 2 ^ i < 2 ^ 7 := Nat.pow_lt_pow_right (by decide) h
  omega
theorem shrn {a i : Nat} (h : i ≤ 64) : shr .i64 (a : Int) (i : Int) = ((a >>> i : Nat) : Int) := by
  unfold shr
  rw [Int.toNat_natCast, show IntKind.i64.bits = 64 from rfl, Nat.min_eq_left h, Nat.shiftRight_eq_div_pow]
  simp
theorem shr_lt {a i m : Nat} (h : a < m) : a >>> i < m := Nat.lt_of_le_of_lt (by rw [Nat.shiftRight_eq_div_pow]; exact Nat.div_le_self _ _) h
/-- 'set>>i&1' -/
theorem bitAnd {a i : Nat} (ha : a < 2 ^ 62) (hi : i ≤ 64) : Go.bits .and .i64 (shr .i64 (a : Int) (i : Int)) 1 = if a.testBit i then 1 else 0 := by
  rw [shrn hi, show (1 : Int) = ((1 : Nat) : Int) from rfl, bAnd (shr_lt ha) (by decide)]
  rw [Nat.testBit_eq_decide_div_mod_eq, Nat.shiftRight_eq_div_pow, Nat.and_one_is_mod]
  rcases Nat.mod_two_eq_zero_or_one (a / 2 ^ i) with h | h <;> simp [h]
/-- 'set>>i%2' -/
theorem bitMod {a i : Nat} (hi : i ≤ 64) : (Int.tmod (shr .i64 (a : Int) (i : Int)) 2 == 1) = a.testBit i := by
  rw [shrn hi, Nat.testBit_eq_decide_div_mod_eq, Nat.shiftRight_eq_div_pow]
  have e : Int.tmod ((a / 2 ^ i : Nat) : Int) 2 = ((a / 2 ^ i % 2 : Nat) : Int) := by
    rw [Int.tmod_eq_emod_of_nonneg (Int.natCast_nonneg _)]; simp
  rw [e]
  rcases Nat.mod_two_eq_zero_or_one (a / 2 ^ i) with h | h <;> simp [h]

theorem natBeq0 (a : Nat) : ((a : Int) == 0) = (a == 0) := by rw [Bool.eq_iff_iff, beq_iff_eq, beq_iff_eq]; omega
theorem pow1' {m : Nat} (hm : m ≤ 61) : wrap64 (((2 ^ m : Nat) : Int) - 1) = ((2 ^ m - 1 : Nat) : Int) := by
  have h1 : 2 ^ m < 2 ^ 62 := Nat.pow_lt_pow_right (by decide) (by omega)
  have h2 : 0 < 2 ^ m := Nat.two_pow_pos m
  rw [p62] at h1
  rw [w64 (by omega) (by omega)]; omega

/-! ### lists of Nats as lists of Ints -/
def castL (T : List Nat) : List Int := T.map fun x : Nat => (x : Int)
@[simp] theorem castL_length (T : List Nat) : (castL T).length = T.length := by simp [castL]
theorem castL_append (a b : List Nat) : castL (a ++ b) = castL a ++ castL b := by simp [castL]
theorem castL_cons (a : Nat) (b : List Nat) : castL (a :: b) = (a : Int) :: castL b := rfl
theorem castL_nil : castL [] = [] := rfl
theorem mem_castL {T : List Nat} {x : Nat} : (x : Int) ∈ castL T ↔ x ∈ T := by
  unfold castL
  rw [List.mem_map]
  constructor
  · rintro ⟨y, hy, e⟩
    have : y = x := by omega
    rwa [← this]
  · intro h; exact ⟨x, h, rfl⟩
theorem castL_of {S : List Int} (h : ∀ x ∈ S, 0 ≤ x) : castL (S.map Int.toNat) = S := by
  induction S with
  | nil => rfl
  | cons x S ih =>
    rw [List.map_cons, castL_cons, ih (fun y hy => h y (List.mem_cons_of_mem _ hy)), Int.toNat_of_nonneg (h x List.mem_cons_self)]

theorem rd_mid (pre : List Int) (x : Int) (rest : List Int) : rd (pre ++ x :: rest) (pre.length : Int) = x := by
  unfold rd; rw [Int.toNat_natCast]; simp [List.getD_eq_getElem?_getD]
theorem rd_castL_mid (pre : List Nat) (x : Nat) (rest : List Nat) : rd (castL (pre ++ x :: rest)) (pre.length : Int) = (x : Int) := by
  rw [castL_append, castL_cons, ← castL_length pre]; exact rd_mid _ _ _
theorem rd_nat (S : List Int) (i : Nat) (h : i < S.length) : rd S (i : Int) = S[i] := by
  unfold rd; rw [Int.toNat_natCast]; simp [List.getD_eq_getElem?_getD, h]
theorem rdOf_nat {α : Type} (d : α) (S : List α) (i : Nat) (h : i < S.length) : rdOf d S (i : Int) = S[i] := by
  unfold rdOf; rw [Int.toNat_natCast]; simp [List.getD_eq_getElem?_getD, h]
theorem wnext {i n : Nat} (h : i < n) (hn : n ≤ 1099511627776) : wrap64 ((i : Int) + 1) = ((i + 1 : Nat) : Int) := by
  rw [w64 (by omega) (by omega)]; omega

end Go.Proofs.Ytekllaaohagefaa.Q
namespace Go.Proofs.YtekllaaohagefaaW.PrintWords
/-! ### from some rounds on -/
theorem Ev.some {α : Type} (r : α) : Ev (fun _ : Nat => Option.some r) r := ⟨0, fun _ _ => rfl⟩
theorem Ev.eq {α : Type} {g : Nat → Option α} {r s : α} (h : Ev g r) (e : r = s) : Ev g s := e ▸ h
theorem Ev.at {α : Type} {g : Nat → Option α} {r : α} (hg : ∀ k, LeO (g k) (g (k + 1))) (K : Nat) (h : g K = Option.some r) : Ev g r := Ev.of hg h
theorem Ev.all {α : Type} {o : Option α} {r : α} (h : o = Option.some r) : Ev (fun _ : Nat => o) r := ⟨0, fun _ _ => h⟩
end Go.Proofs.YtekllaaohagefaaW.PrintWords
