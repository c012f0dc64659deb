/-
  Layer 4: identifiers out of bytes.
-/
import Derived.Test.YtokomdenoegkgaaDoorOX04
set_option linter.unusedVariables false
set_option linter.unusedSimpArgs false
set_option maxRecDepth 100000
namespace Go.Proofs.YtokomdenoegkgaaDoor
open Go Go.Proofs.YtokomdenoegkgaaDoor.Abs

/-- a string's byte -/
def bt (s : ByteArray) (i : Nat) : Int := (((s[i]?).getD 0).toNat : Int)
theorem bt_range (s : ByteArray) (i : Nat) : 0 ≤ bt s i ∧ bt s i < 256 := by
  have := ((s[i]?).getD 0).toNat_lt
  simp only [bt]; omega
theorem bt_get (s : ByteArray) (i : Nat) (h : i < s.size) : ∃ y : UInt8, s[i]? = some y ∧ (y.toNat : Int) = bt s i := by
  refine ⟨s[i], getElem?_pos s i h, ?_⟩
  rw [bt, getElem?_pos s i h]; rfl
theorem told_bt (s : ByteArray) (k : Nat) : told s k = 256 * bt s k + bt s (k + 1) := rfl
def parN (s : ByteArray) : Int := 16777216 * bt s 0 + 65536 * bt s 1 + 256 * bt s 2 + bt s 3
def parE (s : ByteArray) : Bool := decide (2147483648 ≤ parN s)
def parI (s : ByteArray) : Int := parN s % 2147483648
theorem parN_range (s : ByteArray) : 0 ≤ parN s ∧ parN s < 4294967296 := by
  have h0 := bt_range s 0
  have h1 := bt_range s 1
  have h2 := bt_range s 2
  have h3 := bt_range s 3
  simp only [parN]; omega
/-- what is told, and why not -/
def parT (s : ByteArray) : Bool × Int × Int :=
  if s.size < 4 then (false, 0, 3) else if 4 < s.size then (false, 0, 4) else cond (within (parI s) (parE s)) (parE s, parI s, 0) (false, 0, 2)
def parR (s : ByteArray) : V := match parT s with | (e, n, c) => .tup [idt e n, .int c]
theorem parR_nd (s : ByteArray) : nodupB (V.toks (parR s)) = true := by
  unfold parR; rfl

theorem MM_argE {k : FuncId} {e e' : Bool} {n n' : Int} {r : V} (h : M k [idt e n] r) (he : e' = e) (hn : n' = n) : M k [idt e' n'] r := by subst he; subst hn; exact h
theorem parse'_ok (s : ByteArray) : M 37 [.str s] (parR s) := by
  refine go37 rfl (parR_nd s) fun hb => ?_
  refine ⟨fun h => ?_, fun h => ?_⟩
  · have h : s.size < 4 := by
      have : (s.size : Int) < 4 := by simpa using h
      omega
    rw [parR, parT, if_pos h]
    exact ⟨⟨⟨⟨L.le_refl _, L.le_refl _, trivial⟩, L.le_refl _, trivial⟩, trivial⟩, trivial, rfl, rfl⟩
  have h4 : ¬ s.size < 4 := by
    have : ¬ (s.size : Int) < 4 := by simpa using h
    omega
  refine ⟨fun h => ?_, fun h => ?_⟩
  · have h : 4 < s.size := by
      have : (s.size : Int) > 4 := by simpa using h
      omega
    rw [parR, parT, if_neg h4, if_pos h]
    exact ⟨⟨⟨⟨L.le_refl _, L.le_refl _, trivial⟩, L.le_refl _, trivial⟩, trivial⟩, trivial, rfl, rfl⟩
  have h5 : ¬ 4 < s.size := by
    have : ¬ (s.size : Int) > 4 := by simpa using h
    omega
  obtain ⟨y0, g0, e0⟩ := bt_get s 0 (by omega)
  obtain ⟨y1, g1, e1⟩ := bt_get s 1 (by omega)
  obtain ⟨y2, g2, e2⟩ := bt_get s 2 (by omega)
  obtain ⟨y3, g3, e3⟩ := bt_get s 3 (by omega)
  refine ⟨y0, ⟨by decide, g0⟩, ?_⟩
  refine ⟨y1, ⟨by decide, g1⟩, ?_⟩
  refine ⟨y2, ⟨by decide, g2⟩, ?_⟩
  refine ⟨y3, ⟨by decide, g3⟩, ?_⟩
  refine ⟨rfl, ?_⟩
  obtain ⟨N, hN⟩ : ∃ N : Int, IntKind.i64.wrap (IntKind.i64.wrap (IntKind.i64.wrap (IntKind.i64.wrap (16777216 * IntKind.i64.wrap (y0.toNat : Int)) + IntKind.i64.wrap (65536 * IntKind.i64.wrap (y1.toNat : Int))) + IntKind.i64.wrap (256 * IntKind.i64.wrap (y2.toNat : Int))) + IntKind.i64.wrap (y3.toNat : Int)) = N := ⟨_, rfl⟩
  have hNv : N = parN s := by
    have h0 := bt_range s 0
    have h1 := bt_range s 1
    have h2 := bt_range s 2
    have h3 := bt_range s 3
    rw [← hN, e0, e1, e2, e3, wrap64 (x := bt s 0) (by omega) (by omega), wrap64 (x := bt s 1) (by omega) (by omega), wrap64 (x := bt s 2) (by omega) (by omega), wrap64 (x := bt s 3) (by omega) (by omega),
      wrap64 (x := 16777216 * bt s 0) (by omega) (by omega), wrap64 (x := 65536 * bt s 1) (by omega) (by omega), wrap64 (x := 256 * bt s 2) (by omega) (by omega), wrap64 (x := 16777216 * bt s 0 + 65536 * bt s 1) (by omega) (by omega), wrap64 (x := 16777216 * bt s 0 + 65536 * bt s 1 + 256 * bt s 2) (by omega) (by omega), wrap64 (by omega) (by omega)]
    rfl
  obtain ⟨r0, r1⟩ := parN_range s
  refine ⟨⟨rfl, by omega⟩, ?_⟩
  have hE : decide (2147483648 ≤ N) = parE s := by rw [hNv]; rfl
  have hI : N.tmod 2147483648 = parI s := by rw [hNv, Int.tmod_eq_emod_of_nonneg r0]; rfl
  rw [← hN] at hE hI
  refine ⟨_, MM_argE (idRight'_ok (parE s) (parI s)) hE hI, ?_⟩
  rw [parR, parT, if_neg h4, if_neg h5]
  refine ⟨fun h => ?_, fun h => ?_⟩
  · have h : within (parI s) (parE s) = false := by simpa using h
    rw [h]
    exact ⟨⟨⟨⟨L.le_refl _, L.le_refl _, trivial⟩, L.le_refl _, trivial⟩, trivial⟩, trivial, rfl, rfl⟩
  · have h : within (parI s) (parE s) = true := by simpa using h
    rw [h]
    exact ⟨⟨⟨⟨L.le_of_eq (congrArg L.bool hE), L.le_of_eq (congrArg L.int hI), trivial⟩, L.le_refl _, trivial⟩, trivial⟩, trivial, rfl, rfl⟩

/-- the number behind so many bytes -/
def accN (s : ByteArray) : Nat → Int
  | 0 => 0
  | k + 1 => accN s k * 256 + bt s k
theorem accN_4 (s : ByteArray) : accN s 4 = parN s := by simp only [accN, parN]; omega
theorem accN_range (s : ByteArray) (k : Nat) (h : k ≤ 4) : 0 ≤ accN s k ∧ accN s k < 4294967296 := by
  have h0 := bt_range s 0
  have h1 := bt_range s 1
  have h2 := bt_range s 2
  have h3 := bt_range s 3
  match k, h with
  | 0, _ => simp [accN]
  | 1, _ => simp only [accN]; omega
  | 2, _ => simp only [accN]; omega
  | 3, _ => simp only [accN]; omega
  | 4, _ => simp only [accN]; omega
theorem accN_less (s : ByteArray) (k : Nat) (h : k < 4) : accN s k < 16777216 := by
  have h0 := bt_range s 0
  have h1 := bt_range s 1
  have h2 := bt_range s 2
  match k, h with
  | 0, _ => simp [accN]
  | 1, _ => simp only [accN]; omega
  | 2, _ => simp only [accN]; omega
  | 3, _ => simp only [accN]; omega
theorem bit31 {N : Int} (h0 : 0 ≤ N) (h1 : N < 4294967296) : ((BitVec.ofInt 64 N &&& BitVec.ofInt 64 2147483648).toNat : Int) = if 2147483648 ≤ N then 2147483648 else 0 := by
  rw [BitVec.toNat_and, toNat64 h0 (by omega)]
  have : (BitVec.ofInt 64 2147483648).toNat = 2 ^ 31 := by decide
  have ht : N.toNat.testBit 31 = decide (2147483648 ≤ N) := by
    rw [Nat.testBit_eq_decide_div_mod_eq]
    by_cases h : 2147483648 ≤ N
    · simp [h]; omega
    · simp [h]; omega
  have e : N.toNat &&& 2 ^ 31 = if 2147483648 ≤ N then 2 ^ 31 else 0 := by
    apply Nat.eq_of_testBit_eq
    intro i
    rw [Nat.testBit_and, Nat.testBit_two_pow]
    by_cases hi : 31 = i
    · subst hi
      rw [ht]
      by_cases h : 2147483648 ≤ N
      · rw [if_pos h, Nat.testBit_two_pow]; simp [h]
      · simp [h]
    · by_cases h : 2147483648 ≤ N
      · rw [if_pos h, Nat.testBit_two_pow]; simp [hi]
      · simp [h, hi]
  rw [this, e]
  by_cases h : 2147483648 ≤ N <;> simp [h]
theorem not31 {N : Int} (h0 : 0 ≤ N) (h1 : N < 4294967296) : ((BitVec.ofInt 64 N &&& ~~~ BitVec.ofInt 64 2147483648).toNat : Int) = N % 2147483648 := by
  rw [BitVec.toNat_and, toNat64 h0 (by omega)]
  have : (~~~ BitVec.ofInt 64 2147483648).toNat = 2 ^ 31 * (2 ^ 33 - 2) + (2 ^ 31 - 1) := by decide
  rw [this]
  have e : N.toNat &&& (2 ^ 31 * (2 ^ 33 - 2) + (2 ^ 31 - 1)) = N.toNat % 2 ^ 31 := by
    apply Nat.eq_of_testBit_eq
    intro i
    rw [Nat.testBit_and, Nat.testBit_mod_two_pow, Nat.testBit_two_pow_mul_add _ (by decide)]
    by_cases h : i < 31
    · simp only [h, if_true, Nat.testBit_two_pow_sub_one, decide_true, Bool.and_true, Bool.true_and]
    · simp only [h, if_false, decide_false, Bool.false_and]
      by_cases h2 : i = 31
      · subst h2; simp
      · have : N.toNat.testBit i = false := Nat.testBit_lt_two_pow (Nat.lt_of_lt_of_le (show N.toNat < 2 ^ 32 by omega) (Nat.pow_le_pow_right (by decide) (by omega)))
        simp [this]
  rw [e]
  omega
theorem bytesL_length (s : ByteArray) : (bytesL s).length = s.size := by rw [bytesL, List.length_map, ByteArray.toList_eq]; rfl
theorem bytesL_get (s : ByteArray) (k : Nat) (h : k < s.size) : (bytesL s)[k]? = some [L.byte (bt s k)] := by
  obtain ⟨y, g, e⟩ := bt_get s k h
  have : s.toList[k]? = some y := by
    rw [ByteArray.toList_eq]
    have : s.data[k]? = some y := g
    simpa using this
  simp [bytesL, this, ← e]

theorem parse_ok (s : ByteArray) : M 35 [.str s] (parR s) := by
  refine go35 rfl (parR_nd s) fun hb => ?_
  refine ⟨fun h => ?_, fun h => ?_⟩
  · have h : s.size < 4 := by
      have : (s.size : Int) < 4 := by simpa using h
      omega
    rw [parR, parT, if_pos h]
    exact ⟨⟨⟨⟨L.le_refl _, L.le_refl _, trivial⟩, L.le_refl _, trivial⟩, trivial⟩, trivial, rfl, rfl⟩
  have h4 : ¬ s.size < 4 := by
    have : ¬ (s.size : Int) < 4 := by simpa using h
    omega
  refine ⟨fun h => ?_, fun h => ?_⟩
  · have h : 4 < s.size := by
      have : (s.size : Int) > 4 := by simpa using h
      omega
    rw [parR, parT, if_neg h4, if_pos h]
    exact ⟨⟨⟨⟨L.le_refl _, L.le_refl _, trivial⟩, L.le_refl _, trivial⟩, trivial⟩, trivial, rfl, rfl⟩
  have h5 : ¬ 4 < s.size := by
    have : ¬ (s.size : Int) > 4 := by simpa using h
    omega
  have hs4 : s.size = 4 := by omega
  refine ⟨by rw [hs4]; decide, ?_⟩
  refine ⟨Nat, (fun k : Nat => (⟨[(2, .ref 999999 0), (4, .int (accN s k)), (19, .d (.l (.sl 1 (bytesL s)))), (20, .int 4), (21, .int k)], ⟨[(999999, .cells [.bool false, .int 0])], [], 900000, 0⟩⟩ : ASt)), (fun k => k ≤ 4), (fun k => 4 - k), 0, Nat.zero_le _, ?_, ?_⟩
  · exact ⟨⟨⟨rfl, rfl⟩, L.le_refl _, L.le_refl _, L.le_of_eq (congrArg L.int (by rw [bytesL_length, hs4]; rfl)), L.le_refl _, trivial⟩, ⟨⟨L.le_refl _, L.le_refl _, trivial⟩, trivial⟩, rfl, rfl⟩
  · rintro k hk _
    have hk : k ≤ 4 := hk
    obtain ⟨r0, r1⟩ := accN_range s k hk
    refine ⟨fun hc => ?_, fun hc => ?_⟩
    · have hlt : k < 4 := by
        have : (k : Int) < 4 := by simpa using hc
        omega
      have b := bt_range s k
      have hl := accN_less s k hlt
      refine ⟨_, ⟨k, rfl, bytesL_get s k (by omega)⟩, ?_⟩
      refine ⟨by decide, ?_⟩
      refine ⟨k + 1, hlt, by show 4 - (k + 1) < 4 - k; omega, ?_⟩
      refine ⟨⟨⟨rfl, rfl⟩, L.le_of_eq (congrArg L.int ?_), L.le_refl _, L.le_refl _, L.le_of_eq (congrArg L.int ?_), trivial⟩, ⟨⟨L.le_refl _, L.le_refl _, trivial⟩, trivial⟩, rfl, rfl⟩
      · have e3 : (2 : Int) ^ (min (8 : Int).toNat 64) = 256 := by decide
        show IntKind.i64.wrap ((BitVec.ofInt 64 (IntKind.i64.wrap (accN s k * 2 ^ (min (8 : Int).toNat 64))) ||| BitVec.ofInt 64 (IntKind.i64.wrap (bt s k))).toNat : Int) = accN s k * 256 + bt s k
        rw [e3, wrap64 (x := bt s k) (by omega) (by omega), wrap64 (x := accN s k * 256) (by omega) (by omega), or_add 8 (by omega) (by omega) (by omega) (by omega) (accN s k).toNat (by omega) (by omega), wrap64 (by omega) (by omega)]
      · rw [wrap64 (by omega) (by omega)]; rfl
    · have hk4 : k = 4 := by
        have : ¬ ((k : Int) < 4) := by simpa using hc
        omega
      subst hk4
      have hE : (!(IntKind.i64.wrap ((BitVec.ofInt 64 (accN s 4) &&& BitVec.ofInt 64 2147483648).toNat : Int) == 0)) = parE s := by
        rw [bit31 r0 r1, accN_4, parE]
        by_cases h : 2147483648 ≤ parN s
        · simp only [h, if_true, decide_true]; rw [wrap64 (by omega) (by omega)]; rfl
        · simp only [h, if_false, decide_false]; rfl
      have hI : IntKind.i64.wrap ((BitVec.ofInt 64 (accN s 4) &&& ~~~ BitVec.ofInt 64 2147483648).toNat : Int) = parI s := by
        rw [not31 r0 r1, accN_4, wrap64 (by omega) (by omega)]; rfl
      refine ⟨_, MM_argE (idRight_ok (parE s) (parI s)) hE hI, ?_⟩
      rw [parR, parT, if_neg h4, if_neg h5]
      refine ⟨fun h => ?_, fun h => ?_⟩
      · have h : within (parI s) (parE s) = false := by simpa using h
        rw [h]
        exact ⟨⟨⟨⟨L.le_refl _, L.le_refl _, trivial⟩, L.le_refl _, trivial⟩, trivial⟩, trivial, rfl, rfl⟩
      · have h : within (parI s) (parE s) = true := by simpa using h
        rw [h]
        exact ⟨⟨⟨⟨L.le_of_eq (congrArg L.bool hE), L.le_of_eq (congrArg L.int hI), trivial⟩, L.le_refl _, trivial⟩, trivial⟩, trivial, rfl, rfl⟩
end Go.Proofs.YtokomdenoegkgaaDoor
