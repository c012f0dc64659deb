/-
  Layer 4: messages' bytes: the document's, and the numbers' iterator.
-/
import Derived.Test.YtokomdenoegkgaaDoorOY04
set_option linter.unusedVariables false
set_option linter.unusedSimpArgs false
set_option maxRecDepth 100000
namespace Go.Proofs.YtokomdenoegkgaaDoor
open Go Go.Proofs.YtokomdenoegkgaaDoor.Abs

def hdB (m : Msg) : ByteArray := printB m.ext m.n ++ ⟨#[pb m.sender]⟩
def encB (m : Msg) : ByteArray := hdB m ++ two m.inc ++ two m.seq ++ two m.number ++ ⟨#[pb m.data.size]⟩ ++ m.data
def encR (m : Msg) : V := cond m.right (.tup [.str (encB m), .int 0]) (.tup [.str ⟨#[]⟩, .int 1])
theorem right_bounds {m : Msg} (h : m.right = true) : within m.n m.ext = true ∧ (0 ≤ m.sender ∧ m.sender < 16) ∧ (1 ≤ m.inc ∧ m.inc ≤ 65535) ∧ (1 ≤ m.seq ∧ m.seq ≤ 65535) ∧ (1 ≤ m.number ∧ m.number ≤ 65535) ∧ m.data.size ≤ 8 := by
  simp [Msg.right, small] at h
  obtain ⟨h1, h2, h3, h4, h5, h6, h7⟩ := h
  exact ⟨h1, ⟨h2, h3⟩, h4, h5, h6, by omega⟩
theorem encR_nd (m : Msg) : nodupB (V.toks (encR m)) = true := by unfold encR; cases m.right <;> rfl
theorem size_print (e : Bool) (n : Int) : (printB e n).size = 4 := rfl
theorem size_two (n : Int) : (two n).size = 2 := rfl
theorem size_one (x : UInt8) : (⟨#[x]⟩ : ByteArray).size = 1 := rfl
theorem size_hd (m : Msg) : (hdB m).size = 5 := by rw [hdB, ByteArray.size_append, size_print, size_one]
theorem size_enc (m : Msg) : (encB m).size = 12 + m.data.size := by
  simp only [encB, ByteArray.size_append, size_hd, size_two, size_one]
theorem byte_one {x : Int} (h0 : 0 ≤ x) (h1 : x < 256) : [[L.byte (IntKind.u8.wrap x)]] = bytesL ⟨#[pb x]⟩ := by
  simp only [bytesL, ByteArray.toList_eq, List.map_cons, List.map_nil]
  rw [pb_toNat h0 h1, wrap8 h0 h1]

theorem encode'_ok (m : Msg) : M 11 [m.V] (encR m) := by
  refine go11 rfl (encR_nd m) fun hb => ?_
  refine ⟨_, right'_ok m, ?_⟩
  refine ⟨fun h => ?_, fun h => ?_⟩
  · have h : m.right = false := by simpa using h
    rw [encR, h]
    exact ⟨⟨⟨L.le_refl _, L.le_refl _, trivial⟩, trivial⟩, trivial, rfl, rfl⟩
  · have h : m.right = true := by simpa using h
    obtain ⟨k1, k2, k3, k4, k5, k6⟩ := right_bounds h
    rw [encR, h]
    have hp := print'_ok m.ext m.n
    rw [printR, k1] at hp
    refine ⟨_, hp, ?_⟩
    refine ⟨⟨#[pb m.sender]⟩, byte_one (by omega) (by omega), ?_⟩
    refine ⟨by show (4 + 1 : Nat) ≤ _; decide, ?_⟩
    refine ⟨_, two_ok m.inc (by omega) (by omega), ?_⟩
    have e1 := size_hd m
    refine ⟨by show (hdB m).size + 2 ≤ _; omega, ?_⟩
    refine ⟨_, two_ok m.seq (by omega) (by omega), ?_⟩
    refine ⟨by show (hdB m ++ two m.inc).size + 2 ≤ _; rw [ByteArray.size_append, size_two]; omega, ?_⟩
    refine ⟨_, two_ok m.number (by omega) (by omega), ?_⟩
    refine ⟨by show (hdB m ++ two m.inc ++ two m.seq).size + 2 ≤ _; simp only [ByteArray.size_append, size_two]; omega, ?_⟩
    refine ⟨⟨#[pb m.data.size]⟩, byte_one (by omega) (by omega), ?_⟩
    refine ⟨by show (hdB m ++ two m.inc ++ two m.seq ++ two m.number).size + 1 ≤ _; simp only [ByteArray.size_append, size_two]; omega, ?_⟩
    refine ⟨by show (hdB m ++ two m.inc ++ two m.seq ++ two m.number ++ ⟨#[pb m.data.size]⟩).size + m.data.size ≤ _; simp only [ByteArray.size_append, size_two, size_one]; omega, ?_⟩
    refine ⟨rfl, ?_⟩
    exact ⟨⟨⟨L.le_refl _, L.le_refl _, trivial⟩, trivial⟩, trivial, rfl, rfl⟩

/-! decoding -/
abbrev zmsg : Msg := ⟨false, 0, 0, 0, 0, 0, ⟨#[]⟩⟩
def bn (s : ByteArray) (i : Nat) : Nat := ((s[i]?).getD 0).toNat
theorem bn_bt (s : ByteArray) (i : Nat) : (bn s i : Int) = bt s i := rfl
def decM (s : ByteArray) : Msg := ⟨(parT (s.extract 0 4)).1, (parT (s.extract 0 4)).2.1, bt s 4, told s 5, told s 7, told s 9, s.extract 12 (12 + bn s 11)⟩
def decT (s : ByteArray) : Msg × ByteArray × Int :=
  if s.size < 12 then (zmsg, ⟨#[]⟩, 3) else if 8 < bn s 11 then (zmsg, ⟨#[]⟩, 2) else if s.size < 12 + bn s 11 then (zmsg, ⟨#[]⟩, 3)
  else if (parT (s.extract 0 4)).2.2 = 0 ∧ (decM s).right = true then (decM s, s.extract (12 + bn s 11) s.size, 0) else (zmsg, ⟨#[]⟩, 2)
def decR (s : ByteArray) : V := match decT s with | (m, r, c) => .tup [m.V, .str r, .int c]
theorem decR_nd (s : ByteArray) : nodupB (V.toks (decR s)) = true := by unfold decR; rfl
theorem parR_eq (s : ByteArray) : parR s = .tup [idt (parT s).1 (parT s).2.1, .int (parT s).2.2] := rfl
theorem parT_c (s : ByteArray) : 0 ≤ (parT s).2.2 ∧ (parT s).2.2 ≤ 4 := by
  unfold parT
  split
  · exact ⟨by decide, by decide⟩
  · split
    · exact ⟨by decide, by decide⟩
    · cases within (parI s) (parE s)
      · exact ⟨show (0 : Int) ≤ 2 by decide, show (2 : Int) ≤ 4 by decide⟩
      · exact ⟨show (0 : Int) ≤ 0 by decide, show (0 : Int) ≤ 4 by decide⟩
theorem size_extract (s : ByteArray) (a b : Nat) : (s.extract a b).size = min b s.size - a := by simp

theorem decode'_ok (s : ByteArray) (hs : s.size ≤ 1000000000) : M 19 [.str s] (decR s) := by
  refine go19 rfl (decR_nd s) fun hb => ?_
  refine ⟨fun h => ?_, fun h => ?_⟩
  · have h : s.size < 12 := by
      have : (s.size : Int) < 12 := by simpa using h
      omega
    rw [decR, decT, if_pos h]
    exact ⟨⟨⟨⟨L.le_refl _, L.le_refl _, L.le_refl _, L.le_refl _, L.le_refl _, L.le_refl _, L.le_refl _, trivial⟩, L.le_refl _, L.le_refl _, trivial⟩, trivial⟩, trivial, rfl, rfl⟩
  have h1 : ¬ s.size < 12 := by
    have : ¬ (s.size : Int) < 12 := by simpa using h
    omega
  obtain ⟨y, g, e⟩ := bt_get s 11 (by omega)
  have hbn : (y.toNat : Int) = bn s 11 := e
  have hy := y.toNat_lt
  refine ⟨y, ⟨by decide, g⟩, ?_⟩
  have wy : IntKind.i64.wrap (y.toNat : Int) = bn s 11 := by rw [wrap64 (by omega) (by omega)]; exact hbn
  have wy2 : IntKind.i64.wrap (12 + IntKind.i64.wrap (y.toNat : Int)) = ((12 + bn s 11 : Nat) : Int) := by rw [wy, wrap64 (by omega) (by omega)]; omega
  refine ⟨fun h => ?_, fun h => ?_⟩
  · have h : 8 < bn s 11 := by
      have : IntKind.i64.wrap (y.toNat : Int) > 8 := by simpa using h
      rw [wy] at this
      omega
    rw [decR, decT, if_neg h1, if_pos h]
    exact ⟨⟨⟨⟨L.le_refl _, L.le_refl _, L.le_refl _, L.le_refl _, L.le_refl _, L.le_refl _, L.le_refl _, trivial⟩, L.le_refl _, L.le_refl _, trivial⟩, trivial⟩, trivial, rfl, rfl⟩
  have h2 : ¬ 8 < bn s 11 := by
    have : ¬ IntKind.i64.wrap (y.toNat : Int) > 8 := by simpa using h
    rw [wy] at this
    omega
  refine ⟨fun h => ?_, fun h => ?_⟩
  · have h : s.size < 12 + bn s 11 := by
      have : (s.size : Int) < IntKind.i64.wrap (12 + IntKind.i64.wrap (y.toNat : Int)) := by simpa using h
      rw [wy2] at this
      omega
    rw [decR, decT, if_neg h1, if_neg h2, if_pos h]
    exact ⟨⟨⟨⟨L.le_refl _, L.le_refl _, L.le_refl _, L.le_refl _, L.le_refl _, L.le_refl _, L.le_refl _, trivial⟩, L.le_refl _, L.le_refl _, trivial⟩, trivial⟩, trivial, rfl, rfl⟩
  have h3 : ¬ s.size < 12 + bn s 11 := by
    have : ¬ (s.size : Int) < IntKind.i64.wrap (12 + IntKind.i64.wrap (y.toNat : Int)) := by simpa using h
    rw [wy2] at this
    omega
  rw [decR, decT, if_neg h1, if_neg h2, if_neg h3]
  refine ⟨4, ⟨rfl, by omega⟩, ?_⟩
  have hp := parse'_ok (s.extract 0 4)
  rw [parR_eq] at hp
  refine ⟨_, hp, ?_⟩
  obtain ⟨z, gz, ez⟩ := bt_get s 4 (by omega)
  refine ⟨z, ⟨by decide, gz⟩, ?_⟩
  refine ⟨_, told_ok s 5 (by omega) (by decide), ?_⟩
  refine ⟨_, told_ok s 7 (by omega) (by decide), ?_⟩
  refine ⟨_, told_ok s 9 (by omega) (by decide), ?_⟩
  refine ⟨(12, 12 + bn s 11), ⟨rfl, wy2, by omega, by omega⟩, ?_⟩
  have hz := z.toNat_lt
  have wz : IntKind.i64.wrap (z.toNat : Int) = bt s 4 := by rw [wrap64 (by omega) (by omega)]; exact ez
  obtain ⟨mm, hmm⟩ : ∃ mm : Msg, mm = { decM s with sender := IntKind.i64.wrap (z.toNat : Int) } := ⟨_, rfl⟩
  have hmd : mm = decM s := by rw [hmm, wz]; rfl
  refine ⟨rfl, ?_⟩
  have hr := right'_ok mm
  rw [hmm] at hr
  refine ⟨_, fun _ => hr, ?_⟩
  refine ⟨fun h => ?_, fun h => ?_⟩
  · have h : ¬ ((parT (s.extract 0 4)).2.2 = 0 ∧ (decM s).right = true) := by
      rintro ⟨q1, q2⟩
      rw [← hmm, hmd, q2, q1] at h
      simp at h
    rw [if_neg h]
    exact ⟨⟨⟨⟨L.le_refl _, L.le_refl _, L.le_refl _, L.le_refl _, L.le_refl _, L.le_refl _, L.le_refl _, trivial⟩, L.le_refl _, L.le_refl _, trivial⟩, trivial⟩, trivial, rfl, rfl⟩
  · have h : (parT (s.extract 0 4)).2.2 = 0 ∧ (decM s).right = true := by
      rw [← hmm, hmd] at h
      by_cases q1 : (parT (s.extract 0 4)).2.2 = 0
      · refine ⟨q1, ?_⟩
        rw [q1] at h
        cases hq : (decM s).right with
        | true => rfl
        | false => rw [hq] at h; simp at h
      · exfalso
        have : ((parT (s.extract 0 4)).2.2 != 0) = true := by simp [q1]
        rw [this] at h
        simp at h
    rw [if_pos h]
    refine ⟨12 + bn s 11, ⟨wy2, by omega⟩, ?_⟩
    refine ⟨rfl, ?_⟩
    exact ⟨⟨⟨⟨L.le_refl _, L.le_refl _, L.le_of_eq (congrArg L.int wz), L.le_refl _, L.le_refl _, L.le_refl _, L.le_refl _, trivial⟩, L.le_refl _, L.le_refl _, trivial⟩, trivial⟩, trivial, rfl, rfl⟩
end Go.Proofs.YtokomdenoegkgaaDoor
