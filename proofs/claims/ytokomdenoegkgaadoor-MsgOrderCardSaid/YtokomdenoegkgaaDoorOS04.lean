/-
  Layer 4: what the functions compute.
-/
import Derived.Test.YtokomdenoegkgaaDoorOG04
set_option linter.unusedVariables false
set_option linter.unusedSimpArgs false
namespace Go.Proofs.YtokomdenoegkgaaDoor
open Go Go.Proofs.YtokomdenoegkgaaDoor.Abs

theorem wrap64 {x : Int} (h1 : -9223372036854775808 ≤ x) (h2 : x < 9223372036854775808) : IntKind.i64.wrap x = x := by
  simp [IntKind.wrap, IntKind.signed, IntKind.bits]
  omega
def ins' {α : Type} (l vs : List α) (i : Nat) : List α := l.take i ++ vs ++ l.drop i
abbrev ins (l vs : List (List L)) (i : Nat) : List (List L) := ins' l vs i
abbrev Sm (l : List (List L)) : Prop := l.length ≤ 1000000000

theorem grow_eq {α : Type} (l junk vs : List α) (i : Nat) (z : α) (hi : i ≤ l.length) (A B : List α) (m1 m2 : Nat) (h1 : m1 = vs.length) (h2 : m2 = l.length - i)
    (hA : A = ((l ++ junk).drop 0).take i ++ List.replicate (l.length + vs.length - i) z) (hB : B = A.take (0 + i) ++ vs.take m1 ++ A.drop (0 + i + m1)) :
    B.take (0 + (i + vs.length)) ++ (((l ++ junk).drop (0 + i)).take (l.length - i)).take m2 ++ B.drop (0 + (i + vs.length) + m2) = ins' l vs i := by
  subst h1 h2
  have a1 : A.take (0 + i) = l.take i := by
    rw [hA, List.drop_zero, Nat.zero_add, List.take_append_of_le_length (by simp; omega), List.take_take, Nat.min_self, List.take_append_of_le_length hi]
  have aL : A.length = l.length + vs.length := by rw [hA]; simp; omega
  have bL : B.length = l.length + vs.length := by rw [hB]; simp; omega
  have b1 : B.take (0 + (i + vs.length)) = l.take i ++ vs := by
    rw [hB, a1, List.take_length, Nat.zero_add, List.take_append_of_le_length (by simp; omega), List.take_of_length_le (by simp; omega)]
  have c1 : (((l ++ junk).drop (0 + i)).take (l.length - i)) = l.drop i := by
    rw [Nat.zero_add, List.drop_append_of_le_length hi, List.take_append_of_le_length (by simp), List.take_of_length_le (by simp)]
  have c2 : (l.drop i).take (l.length - i) = l.drop i := List.take_of_length_le (by simp)
  have d1 : B.drop (0 + (i + vs.length) + (l.length - i)) = [] := List.drop_eq_nil_of_le (by omega)
  rw [b1, c1, c2, d1, List.append_nil]
  rfl

theorem room_eq {α : Type} (l junk vs : List α) (i : Nat) (hi : i ≤ l.length) (hj : vs.length ≤ junk.length) (B : List α) (m1 m2 : Nat) (h1 : m1 = vs.length) (h2 : m2 = l.length - i)
    (c : List α) (hc : c.take m2 = l.drop i) (hB : B = (l ++ junk).take (0 + (i + vs.length)) ++ c.take m2 ++ (l ++ junk).drop (0 + (i + vs.length) + m2)) :
    ∃ z, B.take (0 + i) ++ vs.take m1 ++ B.drop (0 + i + m1) = ins' l vs i ++ z := by
  subst h1
  refine ⟨(l ++ junk).drop (0 + (i + vs.length) + m2), ?_⟩
  have b1 : B.take (0 + i) = l.take i := by
    rw [hB, Nat.zero_add, Nat.zero_add, List.append_assoc, List.take_append_of_le_length (by simp; omega), List.take_take, Nat.min_eq_left (by omega), List.take_append_of_le_length hi]
  have b2 : B.drop (0 + i + vs.length) = l.drop i ++ (l ++ junk).drop (0 + (i + vs.length) + m2) := by
    rw [hB, hc, Nat.zero_add, Nat.zero_add, List.append_assoc, List.drop_append_of_le_length (by simp; omega), List.drop_eq_nil_of_le (by simp; omega)]
    rfl
  rw [b1, b2, List.take_length, ins']
  simp

/-- slices.Insert into an array -/
theorem insert_ok (l vs : List (List L)) (i : Nat) (hi : i ≤ l.length) (hl : Sm l) (hv : Sm vs) (h0 : 0 < vs.length) :
    MM 39 [(N0, .arr 7 l false)] [.msl N0 7 0 l.length, .int i, .d (.l (.sl 7 vs))] [(100, .arr 7 (ins l vs i) false)] (.msl 100 7 0 (l.length + vs.length)) := by
  have w1 : IntKind.i64.wrap ((l.length : Int) + (vs.length : Int)) = ((l.length + vs.length : Nat) : Int) := by rw [wrap64 (by omega) (by omega)]; omega
  have w2 : IntKind.i64.wrap ((i : Int) + (vs.length : Int)) = ((i + vs.length : Nat) : Int) := by rw [wrap64 (by omega) (by omega)]; omega
  have w3 : IntKind.i64.wrap (IntKind.i64.wrap ((l.length : Int) + (vs.length : Int)) - (i : Int)) = ((l.length + vs.length - i : Nat) : Int) := by rw [w1, wrap64 (by omega) (by omega)]; omega
  refine gb39 [(6, 100)] [] rfl rfl fun hb => ?_
  refine ⟨i, ⟨rfl, hi⟩, ?_⟩
  refine ⟨fun h => ?_, fun h => ?_⟩
  · exfalso
    have : (vs.length : Int) = 0 := eq_of_beq h
    omega
  refine ⟨fun h => ?_, fun h => ?_⟩
  · -- at the end
    have h : i = l.length := by have : (i : Int) = l.length := eq_of_beq h; omega
    refine ⟨trivial, .inr (.inr ⟨⟨rfl, Nat.le_refl _, by show (l.length + vs.length) * 64 ≤ _; omega⟩, ?_⟩)⟩
    refine ⟨⟨⟨rfl, rfl, rfl, rfl⟩, trivial⟩, ⟨⟨rfl, ⟨[], ?_⟩, nofun⟩, trivial⟩, rfl, rfl⟩
    simp [ins', h]
  have hne : ¬ (i : Int) = l.length := by simpa using h
  intro junk hjs
  refine ⟨fun hg => ?_, fun hg => ?_⟩
  · -- a new block
    have hg : ((l ++ junk).length : Int) < ((l.length + vs.length : Nat) : Int) := by rw [← w1]; simpa using hg
    rw [List.length_append] at hg
    refine ⟨i, ⟨rfl, by simp; omega⟩, ?_⟩
    refine ⟨l.length + vs.length - i, ⟨w3, by omega, rfl, by simp; omega, by simp; omega, by show (i + (l.length + vs.length - i)) * 64 ≤ _; omega⟩, ?_⟩
    refine ⟨i, ⟨rfl, by omega⟩, ?_⟩
    refine ⟨⟨trivial, by simp; omega⟩, ?_⟩
    refine ⟨i + vs.length, ⟨w2, by omega⟩, ?_⟩
    refine ⟨i, ⟨rfl, hi⟩, ?_⟩
    refine ⟨⟨by simp; omega, by simp; omega⟩, ?_⟩
    refine ⟨rfl, ?_⟩
    refine ⟨⟨⟨rfl, rfl, rfl, by omega⟩, trivial⟩, ⟨⟨rfl, ⟨[], ?_⟩, nofun⟩, trivial⟩, rfl, rfl⟩
    rw [List.append_nil]
    exact grow_eq l junk vs i _ hi _ _ _ _ (by simp; omega) (by simp; omega) rfl rfl
  · have hg : ((l.length + vs.length : Nat) : Int) ≤ ((l ++ junk).length : Int) := by rw [← w1]; simpa using hg
    rw [List.length_append] at hg
    refine ⟨l.length + vs.length, ⟨w1, by simp; omega⟩, ?_⟩
    refine ⟨i + vs.length, ⟨w2, by omega⟩, ?_⟩
    refine ⟨fun _ => ?_, nofun⟩
    refine ⟨i + vs.length, ⟨w2, by omega⟩, ?_⟩
    refine ⟨i, ⟨rfl, by omega⟩, ?_⟩
    refine ⟨⟨by simp; omega, by simp; omega⟩, ?_⟩
    refine ⟨rfl, ?_⟩
    refine ⟨i, ⟨rfl, by omega⟩, ?_⟩
    refine ⟨⟨trivial, by simp; omega⟩, ?_⟩
    refine ⟨⟨⟨rfl, rfl, rfl, rfl⟩, trivial⟩, ⟨⟨rfl, ?_, nofun⟩, trivial⟩, rfl, rfl⟩
    refine room_eq l junk vs i hi (by omega) _ _ _ ?_ ?_ _ ?_ rfl
    · omega
    · rw [List.length_take, List.length_drop, List.length_append]; omega
    · rw [List.take_take, Nat.zero_add, List.drop_append_of_le_length hi, List.take_append_of_le_length (by rw [List.length_take, List.length_append, List.length_drop]; omega), List.take_of_length_le (by rw [List.length_take, List.length_append, List.length_drop]; omega)]

/-! ### identifiers -/
def lim (e : Bool) : Int := cond e 536870911 2047
theorem limit_ok (e : Bool) : M 50 [.bool e] (.int (lim e)) := by
  refine go50 rfl rfl fun hb => ?_
  refine ⟨fun h => ?_, fun h => ?_⟩
  · subst h
    refine ⟨1, ⟨rfl, by decide⟩, ?_⟩
    exact ⟨⟨L.le_of_eq rfl, trivial⟩, trivial, rfl, rfl⟩
  · subst h
    refine ⟨0, ⟨rfl, by decide⟩, ?_⟩
    exact ⟨⟨L.le_of_eq rfl, trivial⟩, trivial, rfl, rfl⟩
theorem limit'_ok (e : Bool) : M 42 [.bool e] (.int (lim e)) := by
  refine go42 rfl rfl fun hb => ?_
  refine ⟨fun h => ?_, fun h => ?_⟩
  · subst h; exact ⟨⟨L.le_of_eq rfl, trivial⟩, trivial, rfl, rfl⟩
  · subst h; exact ⟨⟨L.le_of_eq rfl, trivial⟩, trivial, rfl, rfl⟩
def within (n : Int) (e : Bool) : Bool := decide (0 ≤ n) && decide (n ≤ lim e)
theorem within_ok (n : Int) (e : Bool) : M 41 [.int n, .bool e] (.bool (within n e)) := by
  refine go41 rfl rfl fun hb => ?_
  refine ⟨_, fun _ => limit_ok e, ?_⟩
  refine ⟨⟨L.le_of_eq ?_, trivial⟩, trivial, rfl, rfl⟩
  by_cases h : 0 ≤ n <;> simp [h, within]
abbrev idt (e : Bool) (n : Int) : V := .d (.agg [L.bool e, L.int n])
theorem idRight_ok (e : Bool) (n : Int) : M 28 [idt e n] (.bool (within n e)) := by
  refine go28 rfl rfl fun hb => ?_
  refine ⟨_, within_ok n e, ?_⟩
  exact ⟨⟨L.le_refl _, trivial⟩, trivial, rfl, rfl⟩
theorem idRight'_ok (e : Bool) (n : Int) : M 30 [idt e n] (.bool (within n e)) := by
  refine go30 rfl rfl fun hb => ?_
  refine ⟨_, fun _ => limit'_ok e, ?_⟩
  refine ⟨rfl, ?_⟩
  refine ⟨⟨L.le_of_eq ?_, trivial⟩, trivial, rfl, rfl⟩
  by_cases h : 0 ≤ n <;> simp [h, within]
def small (n : Int) : Bool := decide (1 ≤ n) && decide (n ≤ 65535)
theorem small_ok (n : Int) : M 29 [.int n] (.bool (small n)) := by
  refine go29 rfl rfl fun hb => ?_
  refine ⟨⟨L.le_of_eq ?_, trivial⟩, trivial, rfl, rfl⟩
  by_cases h : 1 ≤ n <;> simp [h, small]
theorem small'_ok (n : Int) : M 31 [.int n] (.bool (small n)) := by
  refine go31 rfl rfl fun hb => ?_
  refine ⟨⟨L.le_of_eq ?_, trivial⟩, trivial, rfl, rfl⟩
  by_cases h : 1 ≤ n <;> simp [h, small]

/-! ### messages -/
structure Msg where
  ext : Bool
  n : Int
  sender : Int
  inc : Int
  seq : Int
  number : Int
  data : ByteArray
abbrev Msg.L (m : Msg) : List L := [L.bool m.ext, L.int m.n, L.int m.sender, L.int m.inc, L.int m.seq, L.int m.number, L.str m.data]
abbrev Msg.V (m : Msg) : V := .d (.agg m.L)
def Msg.right (m : Msg) : Bool := within m.n m.ext && (decide (0 ≤ m.sender) && (decide (m.sender < 16) && (small m.inc && (small m.seq && (small m.number && decide ((m.data.size : Int) ≤ 8))))))
theorem cond_and (a b : Bool) : cond a b false = (a && b) := by cases a <;> rfl
theorem right_ok (m : Msg) : M 12 [m.V] (.bool m.right) := by
  refine go12 rfl rfl fun hb => ?_
  refine ⟨_, idRight_ok m.ext m.n, ?_⟩
  refine ⟨_, fun _ => small_ok m.inc, ?_⟩
  refine ⟨_, fun _ => small_ok m.seq, ?_⟩
  refine ⟨_, fun _ => small_ok m.number, ?_⟩
  refine ⟨⟨L.le_of_eq ?_, trivial⟩, trivial, rfl, rfl⟩
  simp only [cond_and, Msg.right, Bool.and_assoc, ge_iff_le]
theorem right'_ok (m : Msg) : M 13 [m.V] (.bool m.right) := by
  refine go13 rfl rfl fun hb => ?_
  refine ⟨_, idRight'_ok m.ext m.n, ?_⟩
  refine ⟨_, fun _ => small'_ok m.inc, ?_⟩
  refine ⟨_, fun _ => small'_ok m.seq, ?_⟩
  refine ⟨_, fun _ => small'_ok m.number, ?_⟩
  refine ⟨⟨L.le_of_eq ?_, trivial⟩, trivial, rfl, rfl⟩
  have : decide (m.sender ≤ 15) = decide (m.sender < 16) := decide_eq_decide.2 (by omega)
  simp only [cond_and, Msg.right, Bool.and_assoc, ge_iff_le, this]
def pick (c n : Int) : Int := (if c < 0 then -(c + 1) else c).tmod n
theorem pick_ok (c n : Int) (hc : -9223372036854775808 ≤ c ∧ c < 9223372036854775808) (hn : 0 < n) : M 17 [.int c, .int n] (.int (pick c n)) := by
  refine go17 rfl rfl fun hb => ?_
  refine ⟨fun h => ?_, fun h => ?_⟩
  · have hlt : c < 0 := by simpa using h
    refine ⟨⟨rfl, by omega⟩, ⟨⟨L.le_of_eq ?_, trivial⟩, trivial, rfl, rfl⟩⟩
    rw [wrap64 (x := c + 1) (by omega) (by omega), wrap64 (by omega) (by omega), pick, if_pos hlt]
    simp
  · have hge : ¬ c < 0 := by simpa using h
    refine ⟨⟨rfl, by omega⟩, ⟨⟨L.le_of_eq ?_, trivial⟩, trivial, rfl, rfl⟩⟩
    rw [pick, if_neg hge]
theorem pick2_ok (c n : Int) (hc : -9223372036854775808 ≤ c ∧ c < 9223372036854775808) (hn : 0 < n) : M 47 [.int c, .int n] (.int (pick c n)) := by
  refine go47 rfl rfl fun hb => ?_
  refine ⟨fun h => ?_, fun h => ?_⟩
  · have hlt : c < 0 := by simpa using h
    refine ⟨⟨rfl, by omega⟩, ⟨⟨L.le_of_eq ?_, trivial⟩, trivial, rfl, rfl⟩⟩
    rw [wrap64 (x := c + 1) (by omega) (by omega), wrap64 (by omega) (by omega), pick, if_pos hlt]
    simp
  · have hge : ¬ c < 0 := by simpa using h
    refine ⟨⟨rfl, by omega⟩, ⟨⟨L.le_of_eq ?_, trivial⟩, trivial, rfl, rfl⟩⟩
    rw [pick, if_neg hge]
theorem pick_range {c n : Int} (hn : 0 < n) : 0 ≤ pick c n ∧ pick c n < n := by
  have h0 : 0 ≤ (if c < 0 then -(c + 1) else c) := by split <;> omega
  rw [pick]
  exact ⟨Int.tmod_nonneg _ h0, Int.tmod_lt_of_pos _ hn⟩
theorem ident_ok (c : Int) (e : Bool) (hc : -9223372036854775808 ≤ c ∧ c < 9223372036854775808) : M 34 [.int c, .bool e] (idt e (pick c (cond e 536870912 2048))) := by
  refine go34 rfl rfl fun hb => ?_
  refine ⟨fun h => ?_, fun h => ?_⟩
  · subst h
    refine ⟨_, pick2_ok c 536870912 hc (by omega), ?_⟩
    exact ⟨⟨⟨L.le_refl _, L.le_refl _, trivial⟩, trivial⟩, trivial, rfl, rfl⟩
  · subst h
    refine ⟨_, pick2_ok c 2048 hc (by omega), ?_⟩
    exact ⟨⟨⟨L.le_refl _, L.le_refl _, trivial⟩, trivial⟩, trivial, rfl, rfl⟩
/-- an identifier's key -/
def key (e : Bool) (n : Int) : Int := cond e (n / 262144 * 524288 + 262144 + n % 262144) (n * 524288)
theorem key'_ok (e : Bool) (n : Int) : M 46 [idt e n] (cond (within n e) (.tup [.int (key e n), .int 0]) (.tup [.int 0, .int 1])) := by
  refine go46 rfl (by cases within n e <;> rfl) fun hb => ?_
  refine ⟨_, idRight'_ok e n, ?_⟩
  refine ⟨fun h => ?_, fun h => ?_⟩
  · have h : within n e = false := by simpa using h
    rw [h]
    exact ⟨⟨⟨L.le_refl _, L.le_refl _, trivial⟩, trivial⟩, trivial, rfl, rfl⟩
  · have h : within n e = true := by simpa using h
    rw [h]
    have hr : 0 ≤ n ∧ n ≤ lim e := by simpa [within] using h
    refine ⟨fun he => ?_, fun he => ?_⟩
    · have he : e = false := by simpa using he
      subst he
      refine ⟨⟨⟨L.le_of_eq ?_, L.le_refl _, trivial⟩, trivial⟩, trivial, rfl, rfl⟩
      have : n ≤ 2047 := hr.2
      rw [wrap64 (by omega) (by omega)]
      simp [key]; omega
    · have he : e = true := by simpa using he
      subst he
      refine ⟨⟨rfl, by omega⟩, ⟨rfl, by omega⟩, ?_⟩
      refine ⟨⟨⟨L.le_of_eq ?_, L.le_refl _, trivial⟩, trivial⟩, trivial, rfl, rfl⟩
      have h1 : n ≤ 536870911 := hr.2
      have e1 : n.tdiv 262144 = n / 262144 := Int.tdiv_eq_ediv_of_nonneg hr.1
      have e2 : n.tmod 262144 = n % 262144 := Int.tmod_eq_emod_of_nonneg hr.1
      rw [e1, e2]
      rw [wrap64 (x := n / 262144) (by omega) (by omega), wrap64 (x := 524288 * (n / 262144)) (by omega) (by omega), wrap64 (x := 524288 * (n / 262144) + 262144) (by omega) (by omega), wrap64 (by omega) (by omega)]
      simp [key]; omega

/-! bits -/
theorem toNat64 {n : Int} (h0 : 0 ≤ n) (h1 : n < 9223372036854775808) : (BitVec.ofInt 64 n).toNat = n.toNat := by
  rw [BitVec.toNat_ofInt]
  congr 1
  omega
theorem and_low {n : Int} (h0 : 0 ≤ n) (h1 : n < 9223372036854775808) : ((BitVec.ofInt 64 n &&& BitVec.ofInt 64 262143).toNat : Int) = n % 262144 := by
  rw [BitVec.toNat_and, toNat64 h0 h1]
  have : (BitVec.ofInt 64 262143).toNat = 2 ^ 18 - 1 := by decide
  rw [this, Nat.and_two_pow_sub_one_eq_mod]
  omega
theorem nat_high (x : Nat) (hx : x < 2 ^ 64) : x &&& (2 ^ 64 - 2 ^ 18) = 2 ^ 18 * (x / 2 ^ 18) := by
  have e : (2 ^ 64 - 2 ^ 18 : Nat) = 2 ^ 18 * (2 ^ 46 - 1) := by decide
  rw [e]
  apply Nat.eq_of_testBit_eq
  intro i
  rw [Nat.testBit_and, Nat.testBit_two_pow_mul, Nat.testBit_two_pow_mul, Nat.testBit_two_pow_sub_one, Nat.testBit_div_two_pow]
  by_cases h1 : 18 ≤ i
  · by_cases h2 : i - 18 < 46
    · simp [h1, h2]
    · have : x.testBit i = false := Nat.testBit_lt_two_pow (Nat.lt_of_lt_of_le hx (Nat.pow_le_pow_right (by decide) (by omega)))
      simp [h1, h2, this]
  · simp [h1]
theorem and_high {n : Int} (h0 : 0 ≤ n) (h1 : n < 9223372036854775808) : ((BitVec.ofInt 64 n &&& ~~~ BitVec.ofInt 64 262143).toNat : Int) = n / 262144 * 262144 := by
  rw [BitVec.toNat_and, toNat64 h0 h1]
  have : (~~~ BitVec.ofInt 64 262143).toNat = 2 ^ 64 - 2 ^ 18 := by decide
  rw [this, nat_high _ (by omega)]
  omega
theorem or_add {a b : Int} (k : Nat) (h0 : 0 ≤ a) (h1 : a < 9223372036854775808) (h2 : 0 ≤ b) (h3 : b < 9223372036854775808) (c : Nat) (ha : a.toNat = 2 ^ k * c) (hb : b.toNat < 2 ^ k) : ((BitVec.ofInt 64 a ||| BitVec.ofInt 64 b).toNat : Int) = a + b := by
  rw [BitVec.toNat_or, toNat64 h0 h1, toNat64 h2 h3, ha, ← Nat.two_pow_add_eq_or_of_lt hb, ← ha]
  omega
theorem keyBits {n : Int} (h0 : 0 ≤ n) (h1 : n ≤ 536870911) : IntKind.i64.wrap ((BitVec.ofInt 64 (IntKind.i64.wrap ((BitVec.ofInt 64 (IntKind.i64.wrap (IntKind.i64.wrap ((BitVec.ofInt 64 n &&& ~~~ BitVec.ofInt 64 262143).toNat : Int) * 2 ^ (min (1 : Int).toNat 64))) ||| BitVec.ofInt 64 262144).toNat : Int)) ||| BitVec.ofInt 64 (IntKind.i64.wrap ((BitVec.ofInt 64 n &&& BitVec.ofInt 64 262143).toNat : Int))).toNat : Int) = key true n := by
  rw [and_high h0 (by omega), and_low h0 (by omega)]
  have e1 : (2 : Int) ^ (min (1 : Int).toNat 64) = 2 := by decide
  rw [e1, wrap64 (x := n / 262144 * 262144) (by omega) (by omega), wrap64 (x := n / 262144 * 262144 * 2) (by omega) (by omega), wrap64 (x := n % 262144) (by omega) (by omega)]
  rw [or_add (a := n / 262144 * 262144 * 2) (b := 262144) 19 (by omega) (by omega) (by omega) (by omega) (n / 262144).toNat (by omega) (by decide)]
  rw [wrap64 (x := n / 262144 * 262144 * 2 + 262144) (by omega) (by omega)]
  rw [or_add (a := n / 262144 * 262144 * 2 + 262144) (b := n % 262144) 18 (by omega) (by omega) (by omega) (by omega) (2 * (n / 262144).toNat + 1) (by omega) (by omega)]
  rw [wrap64 (by omega) (by omega)]
  simp [key]; omega
theorem key_ok (e : Bool) (n : Int) : M 51 [idt e n] (cond (within n e) (.tup [.int (key e n), .int 0]) (.tup [.int 0, .int 1])) := by
  refine go51 rfl (by cases within n e <;> rfl) fun hb => ?_
  refine ⟨_, idRight_ok e n, ?_⟩
  refine ⟨fun h => ?_, fun h => ?_⟩
  · have h : within n e = false := by simpa using h
    rw [h]
    exact ⟨⟨⟨L.le_refl _, L.le_refl _, trivial⟩, trivial⟩, trivial, rfl, rfl⟩
  · have h : within n e = true := by simpa using h
    rw [h]
    have hr : 0 ≤ n ∧ n ≤ lim e := by simpa [within] using h
    refine ⟨fun he => ?_, fun he => ?_⟩
    · subst he
      refine ⟨by decide, ?_⟩
      refine ⟨⟨⟨L.le_of_eq ?_, L.le_refl _, trivial⟩, trivial⟩, trivial, rfl, rfl⟩
      have h1 : n ≤ 536870911 := hr.2
      exact congrArg (fun z => L.int z) (keyBits hr.1 h1)
    · subst he
      refine ⟨⟨⟨L.le_of_eq ?_, L.le_refl _, trivial⟩, trivial⟩, trivial, rfl, rfl⟩
      have h1 : n ≤ 2047 := hr.2
      rw [wrap64 (x := n * 2) (by omega) (by omega), wrap64 (by omega) (by omega)]
      simp [key]; omega
/-- an identifier goes ahead of another one -/
def idLess (e : Bool) (n : Int) (f : Bool) (m : Int) : Bool := within n e && (within m f && decide (key e n < key f m))
theorem idLess_ok (e : Bool) (n : Int) (f : Bool) (m : Int) : M 43 [idt e n, idt f m] (.bool (idLess e n f m)) := by
  refine go43 rfl rfl fun hb => ?_
  cases h1 : within n e with
  | false =>
    refine ⟨_, by have := key_ok e n; rw [h1] at this; exact this, ?_⟩
    cases h2 : within m f with
    | false =>
      refine ⟨_, by have := key_ok f m; rw [h2] at this; exact this, ?_⟩
      exact ⟨⟨L.le_of_eq (by simp [idLess, h1]), trivial⟩, trivial, rfl, rfl⟩
    | true =>
      refine ⟨_, by have := key_ok f m; rw [h2] at this; exact this, ?_⟩
      exact ⟨⟨L.le_of_eq (by simp [idLess, h1]), trivial⟩, trivial, rfl, rfl⟩
  | true =>
    refine ⟨_, by have := key_ok e n; rw [h1] at this; exact this, ?_⟩
    cases h2 : within m f with
    | false =>
      refine ⟨_, by have := key_ok f m; rw [h2] at this; exact this, ?_⟩
      exact ⟨⟨L.le_of_eq (by simp [idLess, h2]), trivial⟩, trivial, rfl, rfl⟩
    | true =>
      refine ⟨_, by have := key_ok f m; rw [h2] at this; exact this, ?_⟩
      exact ⟨⟨L.le_of_eq (by simp [idLess, h1, h2]), trivial⟩, trivial, rfl, rfl⟩
theorem idLess'_ok (e : Bool) (n : Int) (f : Bool) (m : Int) : M 33 [idt e n, idt f m] (.bool (idLess e n f m)) := by
  refine go33 rfl rfl fun hb => ?_
  cases h1 : within n e with
  | false =>
    refine ⟨_, by have := key'_ok e n; rw [h1] at this; exact this, ?_⟩
    cases h2 : within m f with
    | false =>
      refine ⟨_, by have := key'_ok f m; rw [h2] at this; exact this, ?_⟩
      exact ⟨⟨L.le_of_eq (by simp [idLess, h1]), trivial⟩, trivial, rfl, rfl⟩
    | true =>
      refine ⟨_, by have := key'_ok f m; rw [h2] at this; exact this, ?_⟩
      exact ⟨⟨L.le_of_eq (by simp [idLess, h1]), trivial⟩, trivial, rfl, rfl⟩
  | true =>
    refine ⟨_, by have := key'_ok e n; rw [h1] at this; exact this, ?_⟩
    cases h2 : within m f with
    | false =>
      refine ⟨_, by have := key'_ok f m; rw [h2] at this; exact this, ?_⟩
      exact ⟨⟨L.le_of_eq (by simp [idLess, h2]), trivial⟩, trivial, rfl, rfl⟩
    | true =>
      refine ⟨_, by have := key'_ok f m; rw [h2] at this; exact this, ?_⟩
      exact ⟨⟨L.le_of_eq (by simp [idLess, h1, h2]), trivial⟩, trivial, rfl, rfl⟩

/-! ### the order of messages -/
theorem isNaN_ok (n : Int) : M 52 [.int n] (.bool false) := by
  refine go52 rfl rfl fun hb => ?_
  exact ⟨⟨L.le_of_eq (by simp), trivial⟩, trivial, rfl, rfl⟩
def cmp3 (a b : Int) : Int := if a < b then -1 else if b < a then 1 else 0
theorem compare_ok (a b : Int) : M 45 [.int a, .int b] (.int (cmp3 a b)) := by
  refine go45 rfl rfl fun hb => ?_
  refine ⟨_, isNaN_ok a, ?_⟩
  refine ⟨_, isNaN_ok b, ?_⟩
  refine ⟨nofun, fun _ => ⟨nofun, fun _ => ⟨fun h => ?_, fun h => ⟨fun h' => ?_, fun h' => ?_⟩⟩⟩⟩
  · have h : a < b := by simpa using h
    exact ⟨⟨L.le_of_eq (by simp [cmp3, h]), trivial⟩, trivial, rfl, rfl⟩
  · have h : ¬ a < b := by simpa using h
    have h' : b < a := by simpa using h'
    exact ⟨⟨L.le_of_eq (by simp [cmp3, h, h']), trivial⟩, trivial, rfl, rfl⟩
  · have h : ¬ a < b := by simpa using h
    have h' : ¬ b < a := by simpa using h'
    exact ⟨⟨L.le_of_eq (by simp [cmp3, h, h']), trivial⟩, trivial, rfl, rfl⟩
def or2 (x y : Int) : Int := if x = 0 then y else x
theorem or_ok (x y : Int) : M 44 [.d (.sl 1 [[.int x], [.int y]])] (.int (or2 x y)) := by
  refine go44 rfl rfl fun hb => ?_
  refine ⟨Nat, fun k => ⟨[(3, .int 0), (6, .d (.sl 1 [[.int x], [.int y]])), (7, .int 2), (8, .int k)], ⟨[], [], 100, 0⟩⟩, fun k => k ≤ 2 ∧ (1 ≤ k → x = 0) ∧ (2 ≤ k → y = 0), fun k => 2 - k, 0, ?_, ?_, ?_⟩
  · exact ⟨by omega, by omega, by omega⟩
  · refine ⟨⟨L.le_refl _, L.le_refl _, L.le_of_eq rfl, L.le_refl _, trivial⟩, trivial, rfl, rfl⟩
  · rintro k ⟨hk, h1, h2⟩ _
    refine ⟨fun h => ?_, fun h => ?_⟩
    · have hlt : k < 2 := by
        have : (k : Int) < 2 := by simpa using h
        omega
      have hstep : IntKind.i64.wrap ((k : Int) + 1) = ((k + 1 : Nat) : Int) := by rw [wrap64 (by omega) (by omega)]; omega
      rcases Nat.lt_or_ge k 1 with hk0 | hk1
      · have : k = 0 := by omega
        subst this
        refine ⟨[.int x], ⟨0, rfl, rfl⟩, ?_⟩
        refine ⟨fun h => ?_, fun h => ?_⟩
        · have h : ¬ x = 0 := by simpa using h
          exact ⟨⟨L.le_of_eq (by simp [or2, h]), trivial⟩, trivial, rfl, rfl⟩
        · have h : x = 0 := by simpa using h
          refine ⟨1, ⟨by omega, fun _ => h, by omega⟩, by show 2 - 1 < 2 - 0; omega, ?_⟩
          exact ⟨⟨L.le_refl _, L.le_refl _, L.le_refl _, L.le_of_eq (by rw [hstep]), trivial⟩, trivial, rfl, rfl⟩
      · have : k = 1 := by omega
        subst this
        refine ⟨[.int y], ⟨1, rfl, rfl⟩, ?_⟩
        refine ⟨fun h => ?_, fun h => ?_⟩
        · exact ⟨⟨L.le_of_eq (by simp [or2, h1 (by omega)]), trivial⟩, trivial, rfl, rfl⟩
        · have h : y = 0 := by simpa using h
          refine ⟨2, ⟨by omega, fun _ => h1 (by omega), fun _ => h⟩, by show 2 - 2 < 2 - 1; omega, ?_⟩
          exact ⟨⟨L.le_refl _, L.le_refl _, L.le_refl _, L.le_of_eq (by rw [hstep]), trivial⟩, trivial, rfl, rfl⟩
    · have hge : 2 ≤ k := by
        have : ¬ ((k : Int) < 2) := by simpa using h
        omega
      exact ⟨⟨L.le_of_eq (by simp [or2, h1 (by omega), h2 hge]), trivial⟩, trivial, rfl, rfl⟩
/-- a message goes ahead of another one -/
def Msg.less (a b : Msg) : Bool :=
  if a.ext = b.ext ∧ a.n = b.n then (if a.sender = b.sender then decide (a.number < b.number) else decide (a.sender < b.sender)) else idLess a.ext a.n b.ext b.n
def Msg.cmp (a b : Msg) : Int :=
  if idLess a.ext a.n b.ext b.n = true then -1 else if idLess b.ext b.n a.ext a.n = true then 1 else if a.ext = b.ext ∧ a.n = b.n then or2 (cmp3 a.sender b.sender) (cmp3 a.number b.number) else 0
theorem idLess_irrefl (e : Bool) (n : Int) : idLess e n e n = false := by simp [idLess]
theorem Msg.cmp_less (a b : Msg) : decide (a.cmp b < 0) = a.less b := by
  rw [Msg.cmp, Msg.less]
  by_cases h : a.ext = b.ext ∧ a.n = b.n
  · rw [if_pos h, h.1, h.2, idLess_irrefl]
    simp only [Bool.false_eq_true, if_false]
    rw [if_pos ⟨trivial, trivial⟩]
    by_cases hs : a.sender = b.sender
    · rw [if_pos hs, hs]
      simp only [cmp3, or2, Int.lt_irrefl, if_false, if_true]
      by_cases h1 : a.number < b.number
      · simp [h1]
      · by_cases h2 : b.number < a.number <;> simp [h1, h2]
    · rw [if_neg hs]
      simp only [cmp3, or2]
      by_cases h1 : a.sender < b.sender
      · simp [h1]
      · have h2 : b.sender < a.sender := by omega
        simp [h1, h2]
  · rw [if_neg h, if_neg h]
    by_cases h1 : idLess a.ext a.n b.ext b.n = true
    · simp [h1]
    · by_cases h2 : idLess b.ext b.n a.ext a.n = true <;> simp [h1, h2]
theorem eqId (e f : Bool) (n m : Int) : eqCells [Value.bool e, Value.int .i64 n] [Value.bool f, Value.int .i64 m] = decide (e = f ∧ n = m) := by
  simp only [eqCells, eqC, Bool.and_true, Bool.beq_eq_decide_eq]
  by_cases h1 : e = f <;> by_cases h2 : n = m <;> simp [h1, h2]
theorem cmp_ok (a b : Msg) : M 32 [a.V, b.V] (.int (a.cmp b)) := by
  refine go32 rfl rfl fun hb => ?_
  refine ⟨_, idLess_ok a.ext a.n b.ext b.n, ?_⟩
  refine ⟨fun h => ?_, fun h => ?_⟩
  · exact ⟨⟨L.le_of_eq (by simp [Msg.cmp, h]), trivial⟩, trivial, rfl, rfl⟩
  refine ⟨_, idLess_ok b.ext b.n a.ext a.n, ?_⟩
  refine ⟨fun h' => ?_, fun h' => ?_⟩
  · exact ⟨⟨L.le_of_eq (by simp [Msg.cmp, h, h']), trivial⟩, trivial, rfl, rfl⟩
  refine ⟨fun h2 => ?_, fun h2 => ?_⟩
  · have h2 : (!decide (a.ext = b.ext ∧ a.n = b.n)) = true := by rw [← eqId]; exact h2
    have h2 : ¬ (a.ext = b.ext ∧ a.n = b.n) := fun q => by simp [q] at h2
    exact ⟨⟨L.le_of_eq (by rw [Msg.cmp, h, h', if_neg h2]; rfl), trivial⟩, trivial, rfl, rfl⟩
  · have h2 : (!decide (a.ext = b.ext ∧ a.n = b.n)) = false := by rw [← eqId]; exact h2
    have h2 : a.ext = b.ext ∧ a.n = b.n := by simpa using h2
    refine ⟨_, compare_ok a.sender b.sender, ?_⟩
    refine ⟨_, compare_ok a.number b.number, ?_⟩
    refine ⟨_, or_ok _ _, ?_⟩
    refine ⟨rfl, ?_⟩
    exact ⟨⟨L.le_of_eq (by rw [Msg.cmp, h, h']; simp [h2]), trivial⟩, trivial, rfl, rfl⟩
theorem less_ok (a b : Msg) : M 14 [a.V, b.V] (.bool (a.less b)) := by
  refine go14 rfl rfl fun hb => ?_
  refine ⟨_, cmp_ok a b, ?_⟩
  exact ⟨⟨L.le_of_eq (by rw [Msg.cmp_less]), trivial⟩, trivial, rfl, rfl⟩
theorem less'_ok (a b : Msg) : M 15 [a.V, b.V] (.bool (a.less b)) := by
  refine go15 rfl rfl fun hb => ?_
  refine ⟨fun h2 => ?_, fun h2 => ?_⟩
  · have h2 : (!decide (a.ext = b.ext ∧ a.n = b.n)) = true := by rw [← eqId]; exact h2
    have h2 : ¬ (a.ext = b.ext ∧ a.n = b.n) := fun q => by simp [q] at h2
    refine ⟨_, idLess'_ok a.ext a.n b.ext b.n, ?_⟩
    exact ⟨⟨L.le_of_eq (by rw [Msg.less, if_neg h2]), trivial⟩, trivial, rfl, rfl⟩
  · have h2 : (!decide (a.ext = b.ext ∧ a.n = b.n)) = false := by rw [← eqId]; exact h2
    have h2 : a.ext = b.ext ∧ a.n = b.n := by simpa using h2
    refine ⟨fun h3 => ?_, fun h3 => ?_⟩
    · have h3 : ¬ a.sender = b.sender := by simpa using h3
      exact ⟨⟨L.le_of_eq (by rw [Msg.less, if_pos h2, if_neg h3]), trivial⟩, trivial, rfl, rfl⟩
    · have h3 : a.sender = b.sender := by simpa using h3
      exact ⟨⟨L.le_of_eq (by rw [Msg.less, if_pos h2, if_pos h3]), trivial⟩, trivial, rfl, rfl⟩

/-- slices.Insert into nothing -/
theorem insert_nil (vs : List (List L)) (hv : Sm vs) (h0 : 0 < vs.length) :
    MM 39 [] [.d (.l .nil), .int 0, .d (.l (.sl 7 vs))] [(100, .arr 7 vs false)] (.msl 100 7 0 vs.length) := by
  refine gb39 [(25, 0), (6, 100)] [] rfl rfl fun hb => ?_
  refine ⟨0, ⟨rfl, Nat.le_refl _⟩, ?_⟩
  refine ⟨fun h => ?_, fun h => ?_⟩
  · exfalso
    have : (vs.length : Int) = 0 := eq_of_beq h
    omega
  refine ⟨fun h => ?_, nofun⟩
  refine ⟨⟨trivial, h0, by show vs.length * 64 ≤ _; omega⟩, ?_⟩
  exact ⟨⟨⟨rfl, rfl, rfl, rfl⟩, trivial⟩, ⟨⟨rfl, ⟨[], by simp⟩, nofun⟩, trivial⟩, rfl, rfl⟩

/-- lists of messages -/
def Ml (l : List Msg) : List (List L) := l.map Msg.L
theorem Ml_length (l : List Msg) : (Ml l).length = l.length := by simp [Ml]
theorem Ml_get (l : List Msg) (k : Nat) : (Ml l)[k]? = (l[k]?).map Msg.L := by simp [Ml]
abbrev Ms (l : List Msg) : V := .d (.l (.sl 7 (Ml l)))
def Msg.same (a b : Msg) : Bool := eqCells [Value.bool a.ext, .int .i64 a.n, .int .i64 a.sender, .int .i64 a.inc, .int .i64 a.seq, .int .i64 a.number, .string a.data] [Value.bool b.ext, .int .i64 b.n, .int .i64 b.sender, .int .i64 b.inc, .int .i64 b.seq, .int .i64 b.number, .string b.data]
theorem Msg.same_iff (a b : Msg) : a.same b = true ↔ a = b := by
  simp only [Msg.same, eqCells, eqC, Bool.and_true, Bool.and_eq_true, beq_iff_eq]
  constructor
  · rintro ⟨h1, h2, h3, h4, h5, h6, h7⟩
    have h8 : a.data = b.data := by
      rw [ByteArray.toList_eq, ByteArray.toList_eq] at h7
      exact ByteArray.ext (Array.toList_inj.1 h7)
    cases a; cases b; simp only [Msg.mk.injEq]; exact ⟨h1, h2, h3, h4, h5, h6, h8⟩
  · rintro rfl; simp
def sameL (a b : List Msg) : Bool := decide (a.length = b.length) && (List.range a.length).all fun k => match a[k]?, b[k]? with | some x, some y => x.same y | _, _ => true
theorem sameL_iff (a b : List Msg) : sameL a b = true ↔ a = b := by
  simp only [sameL, Bool.and_eq_true, decide_eq_true_eq, List.all_eq_true, List.mem_range]
  constructor
  · rintro ⟨h1, h2⟩
    apply List.ext_getElem h1
    intro k k1 k2
    have := h2 k k1
    rw [List.getElem?_eq_getElem k1, List.getElem?_eq_getElem k2] at this
    exact (Msg.same_iff _ _).1 this
  · rintro rfl
    refine ⟨rfl, fun k hk => ?_⟩
    rw [List.getElem?_eq_getElem hk]
    exact (Msg.same_iff _ _).2 rfl
theorem same_ok (a b : List Msg) : M 20 [Ms a, Ms b] (.bool (sameL a b)) := by
  refine go20 rfl rfl fun hb => ?_
  have hlen : a.length ≤ 9223372036854775807 := by have := (hb.1 0 _ rfl).1; simpa [Ml_length] using this
  refine ⟨fun h => ?_, fun h => ?_⟩
  · have h : ¬ a.length = b.length := by
      have : ¬ (a.length : Int) = b.length := by simpa [Ml_length] using h
      omega
    exact ⟨⟨L.le_of_eq (by simp [sameL, h]), trivial⟩, trivial, rfl, rfl⟩
  · have h : a.length = b.length := by
      have : (a.length : Int) = b.length := by simpa [Ml_length] using h
      omega
    refine ⟨Nat, fun k => ⟨[(0, Ms a), (1, Ms b), (5, .int k)], ⟨[], [], 900000, 0⟩⟩, fun k => k ≤ a.length ∧ ∀ j, j < k → a[j]? = b[j]?, fun k => a.length - k, 0, ?_, ?_, ?_⟩
    · exact ⟨Nat.zero_le _, fun j hj => absurd hj (Nat.not_lt_zero j)⟩
    · exact ⟨⟨L.le_refl _, L.le_refl _, L.le_refl _, trivial⟩, trivial, rfl, rfl⟩
    · rintro k ⟨hk, hs⟩ _
      refine ⟨fun hc => ?_, fun hc => ?_⟩
      · have hlt : k < a.length := by simpa [Ml_length] using hc
        have hlt2 : k < b.length := by omega
        refine ⟨a[k].L, ⟨k, rfl, by simp [Ml_get, hlt]⟩, ?_⟩
        refine ⟨b[k].L, ⟨k, rfl, by simp [Ml_get, hlt2]⟩, ?_⟩
        refine ⟨rfl, ?_⟩
        refine ⟨fun he => ?_, fun he => ?_⟩
        · have he : (!(a[k].same b[k])) = true := he
          refine ⟨⟨L.le_of_eq ?_, trivial⟩, trivial, rfl, rfl⟩
          have : sameL a b = false := by
            cases hsl : sameL a b with
            | false => rfl
            | true =>
              have := (sameL_iff a b).1 hsl
              subst this
              simp [(Msg.same_iff a[k] a[k]).2 rfl] at he
          rw [this]
        · have he : (!(a[k].same b[k])) = false := he
          have he : a[k] = b[k] := (Msg.same_iff _ _).1 (by simpa using he)
          refine ⟨k + 1, ⟨hlt, fun j hj => ?_⟩, by show a.length - (k + 1) < a.length - k; omega, ?_⟩
          · by_cases e : j = k
            · subst e; rw [List.getElem?_eq_getElem hlt, List.getElem?_eq_getElem hlt2, he]
            · exact hs j (by omega)
          · refine ⟨⟨L.le_refl _, L.le_refl _, L.le_of_eq ?_, trivial⟩, trivial, rfl, rfl⟩
            rw [wrap64 (by omega) (by omega)]; simp
      · have hge : a.length ≤ k := by
          have : ¬ ((k : Int) < a.length) := by simpa [Ml_length] using hc
          omega
        refine ⟨⟨L.le_of_eq ?_, trivial⟩, trivial, rfl, rfl⟩
        have : sameL a b = true := by
          rw [sameL_iff]
          apply List.ext_getElem? 
          intro j
          by_cases hj : j < k
          · exact hs j hj
          · rw [List.getElem?_eq_none (by omega), List.getElem?_eq_none (by omega)]
        rw [this]

/-! ### bytes -/
theorem wrap8 {x : Int} (h1 : 0 ≤ x) (h2 : x < 256) : IntKind.u8.wrap x = x := by
  simp [IntKind.wrap, IntKind.signed, IntKind.bits]
  omega
def two (n : Int) : ByteArray := ⟨#[UInt8.ofNat (n / 256).toNat, UInt8.ofNat (n % 256).toNat]⟩
theorem two_ok (n : Int) (h0 : 0 ≤ n) (h1 : n ≤ 65535) : M 27 [.int n] (.str (two n)) := by
  refine go27 rfl rfl fun hb => ?_
  refine ⟨⟨rfl, by omega⟩, ⟨rfl, by omega⟩, ?_⟩
  refine ⟨two n, ?_, ?_⟩
  · have e1 : n.tdiv 256 = n / 256 := Int.tdiv_eq_ediv_of_nonneg h0
    have e2 : n.tmod 256 = n % 256 := Int.tmod_eq_emod_of_nonneg h0
    have e3 : (UInt8.ofNat (n / 256).toNat).toNat = (n / 256).toNat := by simp; omega
    have e4 : (UInt8.ofNat (n % 256).toNat).toNat = (n % 256).toNat := by simp; omega
    show [[L.byte (IntKind.u8.wrap (IntKind.i64.wrap (n.tdiv 256)))], [L.byte (IntKind.u8.wrap (n.tmod 256))]] = _
    rw [e1, e2, wrap64 (by omega) (by omega), wrap8 (by omega) (by omega), wrap8 (by omega) (by omega)]
    simp only [bytesL, two, ByteArray.toList_eq, List.map_cons, List.map_nil, e3, e4]
    congr 3 <;> congr 1 <;> congr 1 <;> congr 1 <;> omega
  · exact ⟨⟨L.le_refl _, trivial⟩, trivial, rfl, rfl⟩
def told (s : ByteArray) (k : Nat) : Int := 256 * (((s[k]?).getD 0).toNat : Int) + (((s[k + 1]?).getD 0).toNat : Int)
theorem told_ok (s : ByteArray) (k : Nat) (h : k + 1 < s.size) (hk : k < 1000000) : M 38 [.str s, .int k] (.int (told s k)) := by
  refine go38 rfl rfl fun hb => ?_
  have e1 : s[k]? = some s[k] := getElem?_pos s k (by omega)
  have e2 : s[k + 1]? = some s[k + 1] := getElem?_pos s (k + 1) h
  refine ⟨s[k], ⟨by omega, by simp⟩, ?_⟩
  refine ⟨s[k + 1], ⟨by rw [wrap64 (by omega) (by omega)]; omega, ?_⟩, ?_⟩
  · rw [wrap64 (by omega) (by omega), show ((k : Int) + 1).toNat = k + 1 by omega]; exact e2
  · refine ⟨rfl, ?_⟩
    refine ⟨⟨L.le_of_eq ?_, trivial⟩, trivial, rfl, rfl⟩
    have b1 := s[k].toNat_lt
    have b2 := s[k + 1].toNat_lt
    rw [told, e1, e2]
    simp only [Option.getD_some]
    rw [wrap64 (x := (s[k].toNat : Int)) (by omega) (by omega), wrap64 (x := (s[k + 1].toNat : Int)) (by omega) (by omega), wrap64 (x := 256 * (s[k].toNat : Int)) (by omega) (by omega), wrap64 (by omega) (by omega)]
theorem get_ok (s : ByteArray) (h : 1 < s.size) : M 36 [.str s] (.int (told s 0)) := by
  refine go36 rfl rfl fun hb => ?_
  have e1 : s[0]? = some s[0] := getElem?_pos s 0 (by omega)
  have e2 : s[1]? = some s[1] := getElem?_pos s 1 h
  refine ⟨s[0], ⟨by omega, by simp⟩, ?_⟩
  refine ⟨by decide, ?_⟩
  refine ⟨s[1], ⟨by omega, by simp⟩, ?_⟩
  refine ⟨rfl, ?_⟩
  refine ⟨⟨L.le_of_eq ?_, trivial⟩, trivial, rfl, rfl⟩
  have b1 := s[0].toNat_lt
  have b2 := s[1].toNat_lt
  rw [told, e1, e2]
  simp only [Option.getD_some]
  have hor := or_add (a := (s[0].toNat : Int) * 256) (b := (s[1].toNat : Int)) 8 (by omega) (by omega) (by omega) (by omega) s[0].toNat (by omega) (by omega)
  have key : IntKind.i64.wrap ((BitVec.ofInt 64 (IntKind.i64.wrap (IntKind.i64.wrap (s[0].toNat : Int) * 2 ^ (min (8 : Int).toNat 64))) ||| BitVec.ofInt 64 (IntKind.i64.wrap (s[1].toNat : Int))).toNat : Int) = 256 * (s[0].toNat : Int) + (s[1].toNat : Int) := by
    have e3 : (2 : Int) ^ (min (8 : Int).toNat 64) = 256 := by decide
    rw [e3, wrap64 (x := (s[0].toNat : Int)) (by omega) (by omega), wrap64 (x := (s[1].toNat : Int)) (by omega) (by omega), wrap64 (x := (s[0].toNat : Int) * 256) (by omega) (by omega), hor, wrap64 (by omega) (by omega)]
    omega
  exact congrArg (fun z => L.int z) key
theorem bytesL_append (s t : ByteArray) : bytesL (s ++ t) = bytesL s ++ bytesL t := by
  simp [bytesL, ByteArray.toList_eq, ByteArray.data_append]
theorem bytesL_two {n : Int} (h0 : 0 ≤ n) (h1 : n ≤ 65535) : bytesL (two n) = [[L.byte (n / 256)], [L.byte (n % 256)]] := by
  have e3 : (UInt8.ofNat (n / 256).toNat).toNat = (n / 256).toNat := by simp; omega
  have e4 : (UInt8.ofNat (n % 256).toNat).toNat = (n % 256).toNat := by simp; omega
  simp only [bytesL, two, ByteArray.toList_eq, List.map_cons, List.map_nil, e3, e4]
  congr 3 <;> congr 1 <;> congr 1 <;> congr 1 <;> omega
theorem put_ok (s : ByteArray) (n : Int) (h0 : 0 ≤ n) (h1 : n ≤ 65535) (hs : s.size ≤ 1000000) : MM 25 [] [.own N0 1 (bytesL s), .int n] [] (.own 5 1 (bytesL (s ++ two n))) := by
  refine gb25 [] [N0] rfl rfl fun hb => ?_
  refine ⟨by decide, ?_⟩
  have hl : (bytesL s).length = s.size := by rw [bytesL, List.length_map, ByteArray.toList_eq]; rfl
  refine ⟨by show ((bytesL s).length + 2) * 1 ≤ _; omega, ?_⟩
  refine ⟨⟨⟨rfl, L.le_of_eq ?_⟩, trivial⟩, trivial, rfl, rfl⟩
  rw [bytesL_append, bytesL_two h0 h1]
  have e1 : (2 : Int) ^ (min (8 : Int).toNat 64) = 256 := by decide
  have e2 : IntKind.u8.wrap (n.fdiv (2 ^ (min (8 : Int).toNat 64))) = n / 256 := by
    rw [e1, Int.fdiv_eq_ediv_of_nonneg _ (by omega), wrap8 (by omega) (by omega)]
  have e3 : IntKind.u8.wrap n = n % 256 := by
    simp [IntKind.wrap, IntKind.signed, IntKind.bits]
  show L.sl 1 (bytesL s ++ [[L.byte (IntKind.u8.wrap (n.fdiv (2 ^ (min (8 : Int).toNat 64))))], [L.byte (IntKind.u8.wrap n)]]) = _
  rw [e2, e3]

/-! ### messages of raw numbers -/
abbrev InR (x : Int) : Prop := -9223372036854775808 ≤ x ∧ x < 9223372036854775808
def idE (r1 : Int) : Bool := if pick r1 7 = 6 then pick r1 2 == 0 else pick r1 3 == 0
def idN (r0 r1 : Int) : Int := if pick r1 7 = 6 then pick r0 (cond (pick r1 2 == 0) 536870912 2048) else pick (pick r0 5) (cond (pick r1 3 == 0) 536870912 2048)
def mkMsg (r0 r1 r2 r3 r4 r5 : Int) (data : ByteArray) : Msg := ⟨idE r1, idN r0 r1, pick r2 16, 1 + pick r3 65535, 1 + pick r4 65535, 1 + pick r5 65535, data.extract 0 (min data.size 8)⟩
theorem message_ok (r0 r1 r2 r3 r4 r5 : Int) (data : ByteArray) (h0 : InR r0) (h1 : InR r1) (h2 : InR r2) (h3 : InR r3) (h4 : InR r4) (h5 : InR r5) :
    M 16 [.d (.agg [L.int r0, L.int r1, L.int r2, L.int r3, L.int r4, L.int r5]), .str data] (mkMsg r0 r1 r2 r3 r4 r5 data).V := by
  have p0 := pick_range (c := r0) (n := 5) (by omega)
  have p3 := pick_range (c := r3) (n := 65535) (by omega)
  have p4 := pick_range (c := r4) (n := 65535) (by omega)
  have p5 := pick_range (c := r5) (n := 65535) (by omega)
  refine go16 rfl rfl fun hb => ?_
  refine ⟨0, ⟨rfl, by decide⟩, ?_⟩
  refine ⟨_, pick_ok r0 5 h0 (by omega), ?_⟩
  refine ⟨1, ⟨rfl, by decide⟩, ?_⟩
  refine ⟨_, pick_ok r1 3 h1 (by omega), ?_⟩
  refine ⟨_, ident_ok (pick r0 5) (pick r1 3 == 0) ⟨by omega, by omega⟩, ?_⟩
  refine ⟨rfl, ?_⟩
  refine ⟨1, ⟨rfl, by decide⟩, ?_⟩
  refine ⟨_, pick_ok r1 7 h1 (by omega), ?_⟩
  refine ⟨fun h => ?_, fun h => ?_⟩
  · have h : pick r1 7 = 6 := by simpa using h
    refine ⟨0, ⟨rfl, by decide⟩, ?_⟩
    refine ⟨1, ⟨rfl, by decide⟩, ?_⟩
    refine ⟨_, pick_ok r1 2 h1 (by omega), ?_⟩
    refine ⟨_, ident_ok r0 (pick r1 2 == 0) h0, ?_⟩
    refine ⟨rfl, ?_⟩
    refine ⟨2, ⟨rfl, by decide⟩, ?_⟩
    refine ⟨_, pick_ok r2 16 h2 (by omega), ?_⟩
    refine ⟨3, ⟨rfl, by decide⟩, ?_⟩
    refine ⟨_, pick_ok r3 65535 h3 (by omega), ?_⟩
    refine ⟨4, ⟨rfl, by decide⟩, ?_⟩
    refine ⟨_, pick_ok r4 65535 h4 (by omega), ?_⟩
    refine ⟨5, ⟨rfl, by decide⟩, ?_⟩
    refine ⟨_, pick_ok r5 65535 h5 (by omega), ?_⟩
    refine ⟨min data.size 8, ⟨by omega, by omega⟩, ?_⟩
    refine ⟨rfl, ?_⟩
    refine ⟨⟨⟨L.le_of_eq ?_, L.le_of_eq ?_, L.le_refl _, L.le_of_eq ?_, L.le_of_eq ?_, L.le_of_eq ?_, L.le_refl _, trivial⟩, trivial⟩, trivial, rfl, rfl⟩
    · simp [mkMsg, idE, h]
    · simp [mkMsg, idN, h]
    · rw [wrap64 (by omega) (by omega)]; rfl
    · rw [wrap64 (by omega) (by omega)]; rfl
    · rw [wrap64 (by omega) (by omega)]; rfl
  · have h : ¬ pick r1 7 = 6 := by simpa using h
    refine ⟨2, ⟨rfl, by decide⟩, ?_⟩
    refine ⟨_, pick_ok r2 16 h2 (by omega), ?_⟩
    refine ⟨3, ⟨rfl, by decide⟩, ?_⟩
    refine ⟨_, pick_ok r3 65535 h3 (by omega), ?_⟩
    refine ⟨4, ⟨rfl, by decide⟩, ?_⟩
    refine ⟨_, pick_ok r4 65535 h4 (by omega), ?_⟩
    refine ⟨5, ⟨rfl, by decide⟩, ?_⟩
    refine ⟨_, pick_ok r5 65535 h5 (by omega), ?_⟩
    refine ⟨min data.size 8, ⟨by omega, by omega⟩, ?_⟩
    refine ⟨rfl, ?_⟩
    refine ⟨⟨⟨L.le_of_eq ?_, L.le_of_eq ?_, L.le_refl _, L.le_of_eq ?_, L.le_of_eq ?_, L.le_of_eq ?_, L.le_refl _, trivial⟩, trivial⟩, trivial, rfl, rfl⟩
    · simp [mkMsg, idE, h]
    · simp [mkMsg, idN, h]
    · rw [wrap64 (by omega) (by omega)]; rfl
    · rw [wrap64 (by omega) (by omega)]; rfl
    · rw [wrap64 (by omega) (by omega)]; rfl

/-! ### sorting -/
def scan (m : Msg) (out : List Msg) : Nat → Nat
  | 0 => 0
  | k + 1 => match out[k]? with
    | some x => if m.less x = true then scan m out k else k + 1
    | none => k + 1
theorem scan_le (m : Msg) (out : List Msg) : ∀ k, scan m out k ≤ k
  | 0 => Nat.le_refl _
  | k + 1 => by
    unfold scan
    split
    · split
      · exact Nat.le_succ_of_le (scan_le m out k)
      · exact Nat.le_refl _
    · exact Nat.le_refl _
def sortStep (out : List Msg) (m : Msg) : List Msg := if within m.n m.ext = true then ins' out [m] (scan m out out.length) else out
theorem sortStep_len (out : List Msg) (m : Msg) : (sortStep out m).length ≤ out.length + 1 := by
  unfold sortStep
  have := scan_le m out out.length
  split
  · simp [ins']; omega
  · omega
def sortL (l : List Msg) : List Msg := l.foldl sortStep []
theorem sortL_take (l : List Msg) (k : Nat) (h : k < l.length) : sortL (l.take (k + 1)) = sortStep (sortL (l.take k)) l[k] := by
  rw [sortL, List.take_succ_eq_append_getElem h, List.foldl_append]; rfl
theorem sortL_len (l : List Msg) : ∀ k, (sortL (l.take k)).length ≤ k
  | 0 => by simp [sortL]
  | k + 1 => by
    by_cases h : k < l.length
    · rw [sortL_take l k h]
      exact Nat.le_trans (sortStep_len _ _) (Nat.succ_le_succ (sortL_len l k))
    · rw [List.take_of_length_le (by omega)]
      have := sortL_len l k
      rw [List.take_of_length_le (by omega)] at this
      omega
end Go.Proofs.YtokomdenoegkgaaDoor
