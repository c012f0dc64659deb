/-
  Layer 4: identifiers' bytes.
-/
import Derived.Test.YtokomdenoegkgaaDoorOS04
set_option linter.unusedVariables false
set_option linter.unusedSimpArgs false
set_option maxRecDepth 100000
namespace Go.Proofs.YtokomdenoegkgaaDoor
open Go Go.Proofs.YtokomdenoegkgaaDoor.Abs

/-- what is shown later, once -/
structure Hid (A : Prop) : Prop where
  of : A
theorem cut {A B : Prop} (h : Hid A → B) (k : A) : B := h ⟨k⟩

def pb (x : Int) : UInt8 := UInt8.ofNat x.toNat
theorem pb_toNat {x : Int} (h0 : 0 ≤ x) (h1 : x < 256) : ((pb x).toNat : Int) = x := by
  have : (pb x).toNat = x.toNat := by simp [pb]; omega
  omega
theorem u8wrap (x : Int) : IntKind.u8.wrap x = x % 256 := by simp [IntKind.wrap, IntKind.signed, IntKind.bits]
theorem u32wrap {x : Int} (h0 : 0 ≤ x) (h1 : x < 4294967296) : IntKind.u32.wrap x = x := by
  simp [IntKind.wrap, IntKind.signed, IntKind.bits]; omega
/-- an identifier's number, as it is printed -/
def nn (e : Bool) (n : Int) : Int := n + cond e 2147483648 0
def printB (e : Bool) (n : Int) : ByteArray := ⟨#[pb (nn e n / 16777216), pb (nn e n / 65536 % 256), pb (nn e n / 256 % 256), pb (nn e n % 256)]⟩
def printR (e : Bool) (n : Int) : V := cond (within n e) (.tup [.str (printB e n), .int 0]) (.tup [.str ⟨#[]⟩, .int 1])
theorem nn_range {e : Bool} {n : Int} (h : within n e = true) : 0 ≤ n ∧ n ≤ 536870911 ∧ 0 ≤ nn e n ∧ nn e n < 4294967296 := by
  have hr : 0 ≤ n ∧ n ≤ lim e := by simpa [within] using h
  cases e
  · have : n ≤ 2047 := hr.2
    simp [nn]; omega
  · have : n ≤ 536870911 := hr.2
    simp [nn]; omega
theorem bytesL_print {e : Bool} {n : Int} (h : within n e = true) : bytesL (printB e n) = [[L.byte (nn e n / 16777216)], [L.byte (nn e n / 65536 % 256)], [L.byte (nn e n / 256 % 256)], [L.byte (nn e n % 256)]] := by
  obtain ⟨_, _, h0, h1⟩ := nn_range h
  simp only [bytesL, printB, ByteArray.toList_eq, List.map_cons, List.map_nil]
  rw [pb_toNat (by omega) (by omega), pb_toNat (by omega) (by omega), pb_toNat (by omega) (by omega), pb_toNat (by omega) (by omega)]

theorem print'_ok (e : Bool) (n : Int) : M 26 [idt e n] (printR e n) := by
  refine go26 rfl (by unfold printR; cases within n e <;> rfl) fun hb => ?_
  refine ⟨_, idRight'_ok e n, ?_⟩
  refine ⟨fun h => ?_, fun h => ?_⟩
  · have h : within n e = false := by simpa using h
    rw [printR, h]
    exact ⟨⟨⟨L.le_refl _, L.le_refl _, trivial⟩, trivial⟩, trivial, rfl, rfl⟩
  · have h : within n e = true := by simpa using h
    obtain ⟨a0, a1, a2, a3⟩ := nn_range h
    rw [printR, h]
    have fin : ∀ N : Int, N = nn e n → [[L.byte (IntKind.u8.wrap (IntKind.i64.wrap (N.tdiv 16777216)))], [L.byte (IntKind.u8.wrap ((IntKind.i64.wrap (N.tdiv 65536)).tmod 256))], [L.byte (IntKind.u8.wrap ((IntKind.i64.wrap (N.tdiv 256)).tmod 256))], [L.byte (IntKind.u8.wrap (N.tmod 256))]] = bytesL (printB e n) := by
      rintro N rfl
      rw [bytesL_print h, Int.tdiv_eq_ediv_of_nonneg a2, Int.tdiv_eq_ediv_of_nonneg a2, Int.tdiv_eq_ediv_of_nonneg a2, wrap64 (x := nn e n / 16777216) (by omega) (by omega), wrap64 (x := nn e n / 65536) (by omega) (by omega), wrap64 (x := nn e n / 256) (by omega) (by omega),
        Int.tmod_eq_emod_of_nonneg (by omega), Int.tmod_eq_emod_of_nonneg (by omega), Int.tmod_eq_emod_of_nonneg (by omega), u8wrap, u8wrap, u8wrap, u8wrap]
      rw [Int.emod_eq_of_lt (a := nn e n / 16777216) (by omega) (by omega), Int.emod_emod_of_dvd _ (Int.dvd_refl _), Int.emod_emod_of_dvd _ (Int.dvd_refl _), Int.emod_emod_of_dvd _ (Int.dvd_refl _)]
    refine ⟨fun he => ?_, fun he => ?_⟩
    · subst he
      refine ⟨⟨rfl, by omega⟩, ⟨rfl, by omega⟩, ⟨rfl, by omega⟩, ⟨rfl, by omega⟩, ⟨rfl, by omega⟩, ⟨rfl, by omega⟩, ?_⟩
      refine ⟨printB true n, fin _ (by rw [wrap64 (by omega) (by omega)]; rfl), ?_⟩
      exact ⟨⟨⟨L.le_refl _, L.le_refl _, trivial⟩, trivial⟩, trivial, rfl, rfl⟩
    · subst he
      refine ⟨⟨rfl, by omega⟩, ⟨rfl, by omega⟩, ⟨rfl, by omega⟩, ⟨rfl, by omega⟩, ⟨rfl, by omega⟩, ⟨rfl, by omega⟩, ?_⟩
      refine ⟨printB false n, fin _ (by simp [nn]), ?_⟩
      exact ⟨⟨⟨L.le_refl _, L.le_refl _, trivial⟩, trivial⟩, trivial, rfl, rfl⟩

/-- the bytes that are there behind so many rounds -/
def prA (N : Int) (k : Nat) : List (List L) := (List.range 4).map fun j => [L.byte (if j < k then N / 2 ^ (8 * (3 - j)) % 256 else 0)]
theorem prA_set (N : Int) (k : Nat) (hk : k < 4) : (prA N k).set k [L.byte (N / 2 ^ (8 * (3 - k)) % 256)] = prA N (k + 1) := by
  match k, hk with
  | 0, _ => rfl
  | 1, _ => rfl
  | 2, _ => rfl
  | 3, _ => rfl
theorem or32 {n : Int} (h0 : 0 ≤ n) (h1 : n ≤ 536870911) : IntKind.u32.wrap ((BitVec.ofInt 32 n ||| BitVec.ofInt 32 2147483648).toNat : Int) = n + 2147483648 := by
  have e1 : (BitVec.ofInt 32 n).toNat = n.toNat := by rw [BitVec.toNat_ofInt]; congr 1; omega
  have e2 : (BitVec.ofInt 32 2147483648).toNat = 2 ^ 31 * 1 := by decide
  rw [BitVec.toNat_or, e1, e2, Nat.or_comm, ← Nat.two_pow_add_eq_or_of_lt (i := 31) (by omega)]
  rw [u32wrap (by omega) (by omega)]
  omega
theorem print_ok (e : Bool) (n : Int) : M 23 [idt e n] (printR e n) := by
  refine gb23 [(5, 0)] [] rfl (by unfold printR; cases within n e <;> rfl) fun hb => ?_
  refine ⟨_, idRight_ok e n, ?_⟩
  refine ⟨fun h => ?_, fun h => ?_⟩
  · have h : within n e = false := by simpa using h
    rw [printR, h]
    exact ⟨⟨⟨L.le_refl _, L.le_refl _, trivial⟩, trivial⟩, trivial, rfl, rfl⟩
  · have h : within n e = true := by simpa using h
    obtain ⟨a0, a1, a2, a3⟩ := nn_range h
    apply cut
    · intro key
      refine ⟨fun he => ?_, fun he => ?_⟩
      · refine ⟨Nat, (fun k : Nat => (⟨[(4, .d (.l (.lit (.int .u32 (nn e n))))), (5, .er 999998 1 0 0), (17, .int k)], ⟨[(999998, .arr 1 (prA (nn e n) k) true)], [], 900000, 0⟩⟩ : ASt)), (fun k => k ≤ 4), (fun k => 4 - k), 0, Nat.zero_le _, ?_, key.of⟩
        subst he
        refine ⟨⟨L.le_of_eq (congrArg L.lit (congrArg (Value.int IntKind.u32) ?_)), ⟨rfl, rfl, rfl, rfl⟩, L.le_refl _, trivial⟩, ⟨⟨rfl, ⟨[], rfl⟩, fun _ => ⟨rfl, rfl⟩⟩, trivial⟩, rfl, rfl⟩
        rw [u32wrap (x := n) (by omega) (by omega)]
        exact or32 a0 a1
      · refine ⟨Nat, (fun k : Nat => (⟨[(4, .d (.l (.lit (.int .u32 (nn e n))))), (5, .er 999998 1 0 0), (17, .int k)], ⟨[(999998, .arr 1 (prA (nn e n) k) true)], [], 900000, 0⟩⟩ : ASt)), (fun k => k ≤ 4), (fun k => 4 - k), 0, Nat.zero_le _, ?_, key.of⟩
        subst he
        refine ⟨⟨L.le_of_eq (congrArg L.lit (congrArg (Value.int IntKind.u32) ?_)), ⟨rfl, rfl, rfl, rfl⟩, L.le_refl _, trivial⟩, ⟨⟨rfl, ⟨[], rfl⟩, fun _ => ⟨rfl, rfl⟩⟩, trivial⟩, rfl, rfl⟩
        rw [u32wrap (by omega) (by omega)]
        simp [nn]
    · rintro k hk _
      have hk : k ≤ 4 := hk
      refine ⟨fun hc => ?_, fun hc => ?_⟩
      · have hlt : k < 4 := by
          have : (k : Int) < 4 := by simpa using hc
          omega
        have w1 : IntKind.i64.wrap (3 - (k : Int)) = 3 - (k : Int) := wrap64 (by omega) (by omega)
        have w2 : IntKind.i64.wrap (8 * (3 - (k : Int))) = 8 * (3 - (k : Int)) := wrap64 (by omega) (by omega)
        refine ⟨by rw [w1, w2]; omega, ?_⟩
        refine ⟨k, ⟨rfl, hlt⟩, ?_⟩
        refine ⟨by show 0 + k < (prA (nn e n) k).length; simp [prA]; omega, ?_⟩
        refine ⟨k + 1, hlt, by show 4 - (k + 1) < 4 - k; omega, ?_⟩
        have hv : IntKind.u8.wrap ((nn e n).fdiv (2 ^ (min (IntKind.i64.wrap (8 * IntKind.i64.wrap (3 - (k : Int)))).toNat IntKind.u32.bits))) = nn e n / 2 ^ (8 * (3 - k)) % 256 := by
          have e1 : (min (8 * (3 - (k : Int))).toNat IntKind.u32.bits) = 8 * (3 - k) := by show min _ 32 = _; omega
          rw [w1, w2, u8wrap, e1, Int.fdiv_eq_ediv_of_nonneg _ (Int.le_of_lt (Int.pow_pos (by decide)))]
        have hs := prA_set (nn e n) k hlt
        rw [← hv] at hs
        have hs0 : (prA (nn e n) k).set (0 + k) _ = _ := (congrArg (fun z => (prA (nn e n) k).set z _) (Nat.zero_add k)).trans hs
        refine ⟨⟨L.le_refl _, ⟨rfl, rfl, rfl, rfl⟩, L.le_of_eq ?_, trivial⟩, ⟨⟨rfl, ⟨[], by rw [List.append_nil]; exact hs0⟩, fun _ => ⟨rfl, hs0⟩⟩, trivial⟩, rfl, rfl⟩
        rw [wrap64 (by omega) (by omega)]; rfl
      · have hk4 : k = 4 := by
          have : ¬ ((k : Int) < 4) := by simpa using hc
          omega
        subst hk4
        refine ⟨rfl, ?_⟩
        refine ⟨printB e n, ⟨by show 0 + 4 ≤ _; simp [prA], ?_⟩, ?_⟩
        · rw [bytesL_print h]
          show (prA (nn e n) 4).take 4 = _
          simp only [prA, List.range, List.range.loop, List.map_cons, List.map_nil, List.take]
          simp
          omega
        · rw [printR, h]
          exact ⟨⟨⟨L.le_refl _, L.le_refl _, trivial⟩, trivial⟩, trivial, rfl, rfl⟩
end Go.Proofs.YtokomdenoegkgaaDoor
