/-
  Layer 4: messages' bytes.
-/
import Derived.Test.YtokomdenoegkgaaDoorOZ04
set_option linter.unusedVariables false
set_option linter.unusedSimpArgs false
set_option maxRecDepth 100000
namespace Go.Proofs.YtokomdenoegkgaaDoor
open Go Go.Proofs.YtokomdenoegkgaaDoor.Abs

abbrev ptr (b off : Nat) : L := .lit (.pointer (some ⟨b, off, none⟩))
theorem numbers_ok (b : Nat) : M 24 [.d (.l (ptr b 0))] (.fn (.func 40) [] [.ep [ptr b 0] 0]) := by
  refine go24 rfl rfl fun hb => ?_
  exact ⟨⟨⟨rfl, ⟨rfl, rfl⟩, trivial, ⟨.inr ⟨_, rfl, rfl, _, rfl, rfl⟩, trivial⟩⟩, trivial⟩, trivial, rfl, rfl⟩
def numsZ (b : Nat) : List (List D) := [[.int 5, .l (ptr b 3)], [.int 7, .l (ptr b 4)], [.int 9, .l (ptr b 5)]]
theorem nums_it (b : Nat) : N 40 [.ep [ptr b 0] 0] (numsZ b) := by
  refine it40 rfl fun y hb => ?_
  refine ⟨rfl, ?_⟩
  refine ⟨Nat, fun k => ⟨[(0, .fn (.yield y) [] []), (14, .d (.l (.sl 1 [[ptr b 3], [ptr b 4], [ptr b 5]]))), (15, .int 3), (16, .int k)], ⟨[], [], 100, k + 1⟩⟩, fun k => k ≤ 3, fun k => 3 - k, 0, Nat.zero_le _, ?_, ?_⟩
  · exact ⟨⟨⟨rfl, ⟨rfl, rfl⟩, trivial, trivial⟩, L.le_refl _, L.le_refl _, L.le_refl _, trivial⟩, trivial, rfl, rfl⟩
  · intro k hk hbk
    refine ⟨fun h => ?_, fun h => ?_⟩
    · have hlt : k < 3 := by
        have : (k : Int) < 3 := by simpa using h
        omega
      have inc : IntKind.i64.wrap ((k : Int) + 1) = ((k + 1 : Nat) : Int) := by rw [wrap64 (by omega) (by omega)]; simp
      have w2 : IntKind.i64.wrap (2 * (k : Int)) = 2 * (k : Int) := wrap64 (by omega) (by omega)
      have w3 : IntKind.i64.wrap (5 + IntKind.i64.wrap (2 * (k : Int))) = 5 + 2 * (k : Int) := by rw [w2, wrap64 (by omega) (by omega)]
      refine ⟨[ptr b (3 + k)], ⟨k, rfl, ?_⟩, ?_⟩
      · match k, hlt with
        | 0, _ => rfl
        | 1, _ => rfl
        | 2, _ => rfl
      refine ⟨⟨rfl, ?_⟩, ?_, ?_⟩
      · show (numsZ b)[k]? = some [.int (IntKind.i64.wrap (5 + IntKind.i64.wrap (2 * (k : Int)))), .l (ptr b (3 + k))]
        rw [w3]
        match k, hlt with
        | 0, _ => rfl
        | 1, _ => rfl
        | 2, _ => rfl
      · refine ⟨fun h2 => ?_, fun h2 => ?_⟩
        · simp at h2
        · refine ⟨k + 1, hlt, by show 3 - (k + 1) < 3 - k; omega, ?_⟩
          exact ⟨⟨⟨rfl, ⟨rfl, rfl⟩, trivial, trivial⟩, L.le_refl _, L.le_refl _, L.le_of_eq (by rw [inc]), trivial⟩, trivial, rfl, rfl⟩
      · refine ⟨fun h2 => .inl rfl, fun h2 => ?_⟩
        simp at h2
    · have hge : k = 3 := by
        have : ¬ ((k : Int) < 3) := by simpa using h
        omega
      subst hge
      exact .inr rfl

/-- what is there behind so many numbers -/
def preB (m : Msg) : Nat → ByteArray
  | 0 => hdB m
  | 1 => hdB m ++ two m.inc
  | 2 => hdB m ++ two m.inc ++ two m.seq
  | _ => hdB m ++ two m.inc ++ two m.seq ++ two m.number
abbrev Msg.C (m : Msg) : List Abs.V := [.bool m.ext, .int m.n, .int m.sender, .int m.inc, .int m.seq, .int m.number, .str m.data]
theorem encode_ok (m : Msg) : M 10 [m.V] (encR m) := by
  refine go10 rfl (encR_nd m) fun hb => ?_
  refine ⟨_, right_ok m, ?_⟩
  refine ⟨fun h => ?_, fun h => ?_⟩
  · have h : m.right = false := by simpa using h
    rw [encR, h]
    exact ⟨⟨⟨L.le_refl _, L.le_refl _, trivial⟩, trivial⟩, trivial, rfl, rfl⟩
  · have h : m.right = true := by simpa using h
    obtain ⟨k1, k2, k3, k4, k5, k6⟩ := right_bounds h
    rw [encR, h]
    have hp := print_ok m.ext m.n
    rw [printR, k1] at hp
    refine ⟨_, hp, ?_⟩
    refine ⟨by show (4 : Nat) ≤ _; decide, ?_⟩
    refine ⟨by rw [bytesL_length]; show (4 + 1) * 1 ≤ _; decide, ?_⟩
    intro b
    refine ⟨_, numbers_ok b, ?_⟩
    refine ⟨numsZ b, [(1, .ref 999999 0), (6, .ref 999995 0)], fun i => ⟨[(999999, .cells m.C), (999995, .cells [.own 950000 1 (bytesL (preB m i))]), (999994, .loc 999999 b)], [950000], 900000, 0⟩, nums_it b, ?_, rfl, ?_, ?_, ?_⟩
    · intro ds hds
      simp only [numsZ, List.mem_cons, List.not_mem_nil, or_false] at hds
      rcases hds with rfl | rfl | rfl <;> rfl
    · refine ⟨⟨⟨b, rfl, 999994, rfl⟩, ⟨rfl, rfl⟩, trivial⟩, ⟨⟨L.le_refl _, L.le_refl _, L.le_refl _, L.le_refl _, L.le_refl _, L.le_refl _, L.le_refl _, trivial⟩, ⟨⟨rfl, L.le_of_eq (congrArg (L.sl 1) ?_)⟩, trivial⟩, ⟨rfl, rfl⟩, trivial⟩, rfl, rfl⟩
      show bytesL (printB m.ext m.n) ++ [[L.byte (IntKind.u8.wrap m.sender)]] = bytesL (hdB m)
      rw [byte_one (by omega) (by omega), ← bytesL_append]; rfl
    · have e1 := size_hd m
      intro i ds hz
      match i, hz with
      | 0, hz =>
          cases hz
          refine ⟨⟨[(27, .ref 999999 3), (1, .ref 999999 0), (6, .ref 999995 0)], ⟨[(999999, .cells m.C), (999995, .cells [.own 950000 1 (bytesL (preB m 0))]), (999994, .loc 999999 b)], [950000], 900000, 0⟩⟩, ?_, fun hbd => ?_⟩
          · exact ⟨⟨⟨b, rfl, 999994, rfl⟩, ⟨rfl, rfl⟩, ⟨rfl, rfl⟩, trivial⟩, ⟨⟨L.le_refl _, L.le_refl _, L.le_refl _, L.le_refl _, L.le_refl _, L.le_refl _, L.le_refl _, trivial⟩, ⟨⟨rfl, L.le_refl _⟩, trivial⟩, ⟨rfl, rfl⟩, trivial⟩, rfl, rfl⟩
          · refine ⟨_, _, put_ok (preB m 0) m.inc (by omega) (by omega) (by simp only [preB, ByteArray.size_append, size_two]; omega), ?_⟩
            refine ⟨rfl, ?_⟩
            exact ⟨⟨⟨rfl, rfl⟩, ⟨rfl, rfl⟩, trivial⟩, ⟨⟨L.le_refl _, L.le_refl _, L.le_refl _, L.le_refl _, L.le_refl _, L.le_refl _, L.le_refl _, trivial⟩, ⟨⟨rfl, L.le_refl _⟩, trivial⟩, ⟨rfl, rfl⟩, trivial⟩, rfl, rfl⟩
        | 1, hz =>
          cases hz
          refine ⟨⟨[(27, .ref 999999 4), (1, .ref 999999 0), (6, .ref 999995 0)], ⟨[(999999, .cells m.C), (999995, .cells [.own 950000 1 (bytesL (preB m 1))]), (999994, .loc 999999 b)], [950000], 900000, 0⟩⟩, ?_, fun hbd => ?_⟩
          · exact ⟨⟨⟨b, rfl, 999994, rfl⟩, ⟨rfl, rfl⟩, ⟨rfl, rfl⟩, trivial⟩, ⟨⟨L.le_refl _, L.le_refl _, L.le_refl _, L.le_refl _, L.le_refl _, L.le_refl _, L.le_refl _, trivial⟩, ⟨⟨rfl, L.le_refl _⟩, trivial⟩, ⟨rfl, rfl⟩, trivial⟩, rfl, rfl⟩
          · refine ⟨_, _, put_ok (preB m 1) m.seq (by omega) (by omega) (by simp only [preB, ByteArray.size_append, size_two]; omega), ?_⟩
            refine ⟨rfl, ?_⟩
            exact ⟨⟨⟨rfl, rfl⟩, ⟨rfl, rfl⟩, trivial⟩, ⟨⟨L.le_refl _, L.le_refl _, L.le_refl _, L.le_refl _, L.le_refl _, L.le_refl _, L.le_refl _, trivial⟩, ⟨⟨rfl, L.le_refl _⟩, trivial⟩, ⟨rfl, rfl⟩, trivial⟩, rfl, rfl⟩
        | 2, hz =>
          cases hz
          refine ⟨⟨[(27, .ref 999999 5), (1, .ref 999999 0), (6, .ref 999995 0)], ⟨[(999999, .cells m.C), (999995, .cells [.own 950000 1 (bytesL (preB m 2))]), (999994, .loc 999999 b)], [950000], 900000, 0⟩⟩, ?_, fun hbd => ?_⟩
          · exact ⟨⟨⟨b, rfl, 999994, rfl⟩, ⟨rfl, rfl⟩, ⟨rfl, rfl⟩, trivial⟩, ⟨⟨L.le_refl _, L.le_refl _, L.le_refl _, L.le_refl _, L.le_refl _, L.le_refl _, L.le_refl _, trivial⟩, ⟨⟨rfl, L.le_refl _⟩, trivial⟩, ⟨rfl, rfl⟩, trivial⟩, rfl, rfl⟩
          · refine ⟨_, _, put_ok (preB m 2) m.number (by omega) (by omega) (by simp only [preB, ByteArray.size_append, size_two]; omega), ?_⟩
            refine ⟨rfl, ?_⟩
            exact ⟨⟨⟨rfl, rfl⟩, ⟨rfl, rfl⟩, trivial⟩, ⟨⟨L.le_refl _, L.le_refl _, L.le_refl _, L.le_refl _, L.le_refl _, L.le_refl _, L.le_refl _, trivial⟩, ⟨⟨rfl, L.le_refl _⟩, trivial⟩, ⟨rfl, rfl⟩, trivial⟩, rfl, rfl⟩
      | n + 3, hz => simp [numsZ] at hz
    · have e1 := size_hd m
      refine ⟨by show ((bytesL (preB m 3)).length + 1) * 1 ≤ _; rw [bytesL_length]; simp only [preB, ByteArray.size_append, size_two]; omega, ?_⟩
      refine ⟨preB m 3 ++ ⟨#[pb m.data.size]⟩, ?_, ?_⟩
      · show bytesL (preB m 3) ++ [[L.byte (IntKind.u8.wrap (m.data.size : Int))]] = _
        rw [byte_one (by omega) (by omega), ← bytesL_append]
      refine ⟨by show (preB m 3 ++ ⟨#[pb m.data.size]⟩).size + m.data.size ≤ _; simp only [preB, ByteArray.size_append, size_two, size_one]; omega, ?_⟩
      refine ⟨rfl, ?_⟩
      exact ⟨⟨⟨L.le_refl _, L.le_refl _, trivial⟩, trivial⟩, trivial, rfl, rfl⟩

/-! a string's rest -/
theorem bt_extract (s : ByteArray) (k j : Nat) (h : k + j < s.size) : bt (s.extract k s.size) j = bt s (k + j) := by
  have h1 : j < (s.extract k s.size).size := by rw [size_extract]; omega
  simp only [bt]
  rw [getElem?_pos (s.extract k s.size) j h1, getElem?_pos s (k + j) h, ByteArray.getElem_extract]
theorem told_extract (s : ByteArray) (k : Nat) (h : k + 1 < s.size) : told (s.extract k s.size) 0 = told s k := by
  rw [told_bt, told_bt, bt_extract s k 0 (by omega), bt_extract s k 1 (by omega)]
  rfl
theorem extract_twice (s : ByteArray) (a n : Nat) (h : a + n ≤ s.size) : (s.extract a s.size).extract 0 n = s.extract a (a + n) := by
  rw [ByteArray.extract_extract]
  congr 1 <;> omega

/-- the message behind so many numbers -/
def decC (s : ByteArray) (e : Bool) (n : Int) : Nat → List V
  | 0 => [.bool e, .int n, .int (bt s 4), .int 0, .int 0, .int 0, .str (s.extract 12 (12 + bn s 11))]
  | 1 => [.bool e, .int n, .int (bt s 4), .int (told s 5), .int 0, .int 0, .str (s.extract 12 (12 + bn s 11))]
  | 2 => [.bool e, .int n, .int (bt s 4), .int (told s 5), .int (told s 7), .int 0, .str (s.extract 12 (12 + bn s 11))]
  | _ => [.bool e, .int n, .int (bt s 4), .int (told s 5), .int (told s 7), .int (told s 9), .str (s.extract 12 (12 + bn s 11))]
theorem decode_ok (s : ByteArray) (hs : s.size ≤ 1000000000) : M 18 [.str s] (decR s) := by
  refine go18 rfl (decR_nd s) fun hb => ?_
  refine ⟨fun h => ?_, fun h => ?_⟩
  · have h : s.size < 12 := by
      have : (s.size : Int) < 12 := by simpa using h
      omega
    rw [decR, decT, if_pos h]
    exact ⟨⟨⟨⟨L.le_refl _, L.le_refl _, L.le_refl _, L.le_refl _, L.le_refl _, L.le_refl _, L.le_refl _, trivial⟩, L.le_refl _, L.le_refl _, trivial⟩, trivial⟩, trivial, rfl, rfl⟩
  have h1 : ¬ s.size < 12 := by
    have : ¬ (s.size : Int) < 12 := by simpa using h
    omega
  obtain ⟨y, g, e⟩ := bt_get s 11 (by omega)
  have hbn : (y.toNat : Int) = bn s 11 := e
  have hy := y.toNat_lt
  refine ⟨y, ⟨by decide, g⟩, ?_⟩
  have wy : IntKind.i64.wrap (y.toNat : Int) = bn s 11 := by rw [wrap64 (by omega) (by omega)]; exact hbn
  have wy2 : IntKind.i64.wrap (12 + IntKind.i64.wrap (y.toNat : Int)) = ((12 + bn s 11 : Nat) : Int) := by rw [wy, wrap64 (by omega) (by omega)]; omega
  refine ⟨fun h => ?_, fun h => ?_⟩
  · have h : 8 < bn s 11 := by
      have : IntKind.i64.wrap (y.toNat : Int) > 8 := by simpa using h
      rw [wy] at this
      omega
    rw [decR, decT, if_neg h1, if_pos h]
    exact ⟨⟨⟨⟨L.le_refl _, L.le_refl _, L.le_refl _, L.le_refl _, L.le_refl _, L.le_refl _, L.le_refl _, trivial⟩, L.le_refl _, L.le_refl _, trivial⟩, trivial⟩, trivial, rfl, rfl⟩
  have h2 : ¬ 8 < bn s 11 := by
    have : ¬ IntKind.i64.wrap (y.toNat : Int) > 8 := by simpa using h
    rw [wy] at this
    omega
  refine ⟨fun h => ?_, fun h => ?_⟩
  · have h : s.size < 12 + bn s 11 := by
      have : (s.size : Int) < IntKind.i64.wrap (12 + IntKind.i64.wrap (y.toNat : Int)) := by simpa using h
      rw [wy2] at this
      omega
    rw [decR, decT, if_neg h1, if_neg h2, if_pos h]
    exact ⟨⟨⟨⟨L.le_refl _, L.le_refl _, L.le_refl _, L.le_refl _, L.le_refl _, L.le_refl _, L.le_refl _, trivial⟩, L.le_refl _, L.le_refl _, trivial⟩, trivial⟩, trivial, rfl, rfl⟩
  have h3 : ¬ s.size < 12 + bn s 11 := by
    have : ¬ (s.size : Int) < IntKind.i64.wrap (12 + IntKind.i64.wrap (y.toNat : Int)) := by simpa using h
    rw [wy2] at this
    omega
  rw [decR, decT, if_neg h1, if_neg h2, if_neg h3]
  refine ⟨4, ⟨rfl, by omega⟩, ?_⟩
  have hp := parse_ok (s.extract 0 4)
  rw [parR_eq] at hp
  refine ⟨_, hp, ?_⟩
  obtain ⟨z, gz, ez⟩ := bt_get s 4 (by omega)
  refine ⟨z, ⟨by decide, gz⟩, ?_⟩
  refine ⟨12, ⟨rfl, by omega⟩, ?_⟩
  refine ⟨bn s 11, ⟨wy, by rw [size_extract]; omega⟩, ?_⟩
  refine ⟨rfl, ?_⟩
  intro b
  refine ⟨_, numbers_ok b, ?_⟩
  obtain ⟨e, n, c, hpt⟩ : ∃ e n c, parT (s.extract 0 4) = (e, n, c) := ⟨_, _, _, rfl⟩
  have ee : (parT (s.extract 0 4)).1 = e := by rw [hpt]
  have en : (parT (s.extract 0 4)).2.1 = n := by rw [hpt]
  have ec : (parT (s.extract 0 4)).2.2 = c := by rw [hpt]
  have wz : IntKind.i64.wrap (z.toNat : Int) = bt s 4 := by have := z.toNat_lt; rw [wrap64 (by omega) (by omega)]; exact ez
  refine ⟨numsZ b, [(1, .ref 999999 0), (2, .ref 999998 0), (5, .int (bn s 11)), (7, .ref 999997 0), (8, .int c)], fun i => ⟨[(999999, .cells [.str s]), (999998, .cells zmsg.C), (999997, .cells (decC s e n i)), (999292, .loc 999997 b)], [], 900000, 0⟩, nums_it b, ?_, rfl, ?_, ?_, ?_⟩
  · intro ds hds
    simp only [numsZ, List.mem_cons, List.not_mem_nil, or_false] at hds
    rcases hds with rfl | rfl | rfl <;> rfl
  · exact ⟨⟨⟨rfl, rfl⟩, ⟨rfl, rfl⟩, L.le_of_eq (congrArg L.int wy), ⟨b, rfl, 999292, rfl⟩, L.le_of_eq (congrArg L.int ec), trivial⟩, ⟨⟨L.le_refl _, trivial⟩, ⟨L.le_refl _, L.le_refl _, L.le_refl _, L.le_refl _, L.le_refl _, L.le_refl _, L.le_refl _, trivial⟩, ⟨L.le_of_eq (congrArg L.bool ee), L.le_of_eq (congrArg L.int en), L.le_of_eq (congrArg L.int wz), L.le_refl _, L.le_refl _, L.le_refl _, L.le_of_eq (congrArg L.str (extract_twice s 12 (bn s 11) (by omega))), trivial⟩, ⟨rfl, rfl⟩, trivial⟩, rfl, rfl⟩
  · intro i ds hz
    match i, hz with
    | 0, hz =>
      cases hz
      refine ⟨⟨[(47, .int 5), (48, .ref 999997 3), (1, .ref 999999 0), (2, .ref 999998 0), (5, .int (bn s 11)), (7, .ref 999997 0), (8, .int c)], ⟨[(999999, .cells [.str s]), (999998, .cells zmsg.C), (999997, .cells (decC s e n 0)), (999292, .loc 999997 b)], [], 900000, 0⟩⟩, ?_, fun hbd => ?_⟩
      · exact ⟨⟨L.le_refl _, ⟨b, rfl, 999292, rfl⟩, ⟨rfl, rfl⟩, ⟨rfl, rfl⟩, L.le_refl _, ⟨rfl, rfl⟩, L.le_refl _, trivial⟩, ⟨⟨L.le_refl _, trivial⟩, ⟨L.le_refl _, L.le_refl _, L.le_refl _, L.le_refl _, L.le_refl _, L.le_refl _, L.le_refl _, trivial⟩, ⟨L.le_refl _, L.le_refl _, L.le_refl _, L.le_refl _, L.le_refl _, L.le_refl _, L.le_refl _, trivial⟩, ⟨rfl, rfl⟩, trivial⟩, rfl, rfl⟩
      · refine ⟨5, ⟨rfl, by omega⟩, ?_⟩
        refine ⟨_, get_ok (s.extract 5 s.size) (by rw [size_extract]; omega), ?_⟩
        exact ⟨⟨⟨rfl, rfl⟩, ⟨rfl, rfl⟩, L.le_refl _, ⟨rfl, rfl⟩, L.le_refl _, trivial⟩, ⟨⟨L.le_refl _, trivial⟩, ⟨L.le_refl _, L.le_refl _, L.le_refl _, L.le_refl _, L.le_refl _, L.le_refl _, L.le_refl _, trivial⟩, ⟨L.le_refl _, L.le_refl _, L.le_refl _, L.le_of_eq (congrArg L.int (told_extract s 5 (by omega))), L.le_refl _, L.le_refl _, L.le_refl _, trivial⟩, ⟨rfl, rfl⟩, trivial⟩, rfl, rfl⟩
    | 1, hz =>
      cases hz
      refine ⟨⟨[(47, .int 7), (48, .ref 999997 4), (1, .ref 999999 0), (2, .ref 999998 0), (5, .int (bn s 11)), (7, .ref 999997 0), (8, .int c)], ⟨[(999999, .cells [.str s]), (999998, .cells zmsg.C), (999997, .cells (decC s e n 1)), (999292, .loc 999997 b)], [], 900000, 0⟩⟩, ?_, fun hbd => ?_⟩
      · exact ⟨⟨L.le_refl _, ⟨b, rfl, 999292, rfl⟩, ⟨rfl, rfl⟩, ⟨rfl, rfl⟩, L.le_refl _, ⟨rfl, rfl⟩, L.le_refl _, trivial⟩, ⟨⟨L.le_refl _, trivial⟩, ⟨L.le_refl _, L.le_refl _, L.le_refl _, L.le_refl _, L.le_refl _, L.le_refl _, L.le_refl _, trivial⟩, ⟨L.le_refl _, L.le_refl _, L.le_refl _, L.le_refl _, L.le_refl _, L.le_refl _, L.le_refl _, trivial⟩, ⟨rfl, rfl⟩, trivial⟩, rfl, rfl⟩
      · refine ⟨7, ⟨rfl, by omega⟩, ?_⟩
        refine ⟨_, get_ok (s.extract 7 s.size) (by rw [size_extract]; omega), ?_⟩
        exact ⟨⟨⟨rfl, rfl⟩, ⟨rfl, rfl⟩, L.le_refl _, ⟨rfl, rfl⟩, L.le_refl _, trivial⟩, ⟨⟨L.le_refl _, trivial⟩, ⟨L.le_refl _, L.le_refl _, L.le_refl _, L.le_refl _, L.le_refl _, L.le_refl _, L.le_refl _, trivial⟩, ⟨L.le_refl _, L.le_refl _, L.le_refl _, L.le_refl _, L.le_of_eq (congrArg L.int (told_extract s 7 (by omega))), L.le_refl _, L.le_refl _, trivial⟩, ⟨rfl, rfl⟩, trivial⟩, rfl, rfl⟩
    | 2, hz =>
      cases hz
      refine ⟨⟨[(47, .int 9), (48, .ref 999997 5), (1, .ref 999999 0), (2, .ref 999998 0), (5, .int (bn s 11)), (7, .ref 999997 0), (8, .int c)], ⟨[(999999, .cells [.str s]), (999998, .cells zmsg.C), (999997, .cells (decC s e n 2)), (999292, .loc 999997 b)], [], 900000, 0⟩⟩, ?_, fun hbd => ?_⟩
      · exact ⟨⟨L.le_refl _, ⟨b, rfl, 999292, rfl⟩, ⟨rfl, rfl⟩, ⟨rfl, rfl⟩, L.le_refl _, ⟨rfl, rfl⟩, L.le_refl _, trivial⟩, ⟨⟨L.le_refl _, trivial⟩, ⟨L.le_refl _, L.le_refl _, L.le_refl _, L.le_refl _, L.le_refl _, L.le_refl _, L.le_refl _, trivial⟩, ⟨L.le_refl _, L.le_refl _, L.le_refl _, L.le_refl _, L.le_refl _, L.le_refl _, L.le_refl _, trivial⟩, ⟨rfl, rfl⟩, trivial⟩, rfl, rfl⟩
      · refine ⟨9, ⟨rfl, by omega⟩, ?_⟩
        refine ⟨_, get_ok (s.extract 9 s.size) (by rw [size_extract]; omega), ?_⟩
        exact ⟨⟨⟨rfl, rfl⟩, ⟨rfl, rfl⟩, L.le_refl _, ⟨rfl, rfl⟩, L.le_refl _, trivial⟩, ⟨⟨L.le_refl _, trivial⟩, ⟨L.le_refl _, L.le_refl _, L.le_refl _, L.le_refl _, L.le_refl _, L.le_refl _, L.le_refl _, trivial⟩, ⟨L.le_refl _, L.le_refl _, L.le_refl _, L.le_refl _, L.le_refl _, L.le_of_eq (congrArg L.int (told_extract s 9 (by omega))), L.le_refl _, trivial⟩, ⟨rfl, rfl⟩, trivial⟩, rfl, rfl⟩
    | n + 3, hz => simp [numsZ] at hz
  · obtain ⟨mm, hmm⟩ : ∃ mm : Msg, mm = ⟨e, n, bt s 4, told s 5, told s 7, told s 9, s.extract 12 (12 + bn s 11)⟩ := ⟨_, rfl⟩
    have hmd : decM s = mm := by rw [hmm, decM, ee, en]
    have hr := right_ok mm
    rw [hmd, ec]
    rw [hmm] at hr
    refine ⟨_, fun _ => hr, ?_⟩
    refine ⟨fun h => ?_, fun h => ?_⟩
    · have h : ¬ (c = 0 ∧ mm.right = true) := by
        rintro ⟨q1, q2⟩
        rw [← hmm, q2, q1] at h
        simp at h
      rw [if_neg h]
      exact ⟨⟨⟨⟨L.le_refl _, L.le_refl _, L.le_refl _, L.le_refl _, L.le_refl _, L.le_refl _, L.le_refl _, trivial⟩, L.le_refl _, L.le_refl _, trivial⟩, trivial⟩, trivial, rfl, rfl⟩
    · have h : c = 0 ∧ mm.right = true := by
        rw [← hmm] at h
        by_cases q1 : c = 0
        · refine ⟨q1, ?_⟩
          rw [q1] at h
          cases hq : mm.right with
          | true => rfl
          | false => rw [hq] at h; simp at h
        · exfalso
          have : (c != 0) = true := by simp [q1]
          rw [this] at h
          simp at h
      rw [if_pos h]
      have wb : IntKind.i64.wrap (12 + (bn s 11 : Int)) = ((12 + bn s 11 : Nat) : Int) := by rw [wrap64 (by omega) (by omega)]; omega
      refine ⟨12 + bn s 11, ⟨wb, by omega⟩, ?_⟩
      refine ⟨rfl, ?_⟩
      rw [hmm]
      exact ⟨⟨⟨⟨L.le_refl _, L.le_refl _, L.le_refl _, L.le_refl _, L.le_refl _, L.le_refl _, L.le_refl _, trivial⟩, L.le_refl _, L.le_refl _, trivial⟩, trivial⟩, trivial, rfl, rfl⟩
end Go.Proofs.YtokomdenoegkgaaDoor
