/-
  Layer 4: plain laws of bytes.
-/
import Derived.Test.YtokomdenoegkgaaDoorOW04
set_option linter.unusedVariables false
set_option linter.unusedSimpArgs false
set_option maxRecDepth 100000
namespace Go.Proofs.YtokomdenoegkgaaDoor
open Go Go.Proofs.YtokomdenoegkgaaDoor.Abs

/-- a text's bytes, as a list -/
abbrev bl (s : ByteArray) : List UInt8 := s.data.toList
theorem bl_ext {s t : ByteArray} (h : bl s = bl t) : s = t := by
  obtain ⟨⟨a⟩⟩ := s
  obtain ⟨⟨b⟩⟩ := t
  simp only [bl] at h
  subst h; rfl
theorem bl_size (s : ByteArray) : s.size = (bl s).length := rfl
theorem bl_append (s t : ByteArray) : bl (s ++ t) = bl s ++ bl t := by simp [bl, ByteArray.data_append]
theorem bl_extract (s : ByteArray) (a b : Nat) : bl (s.extract a b) = ((bl s).take b).drop a := by
  simp [bl, ByteArray.data_extract, Array.toList_extract, List.extract_eq_take_drop, List.drop_take]
theorem get_bl (s : ByteArray) (i : Nat) : s[i]? = (bl s)[i]? := by
  by_cases h : i < s.size
  · rw [getElem?_pos s i h]
    have : i < (bl s).length := h
    rw [List.getElem?_eq_getElem this]; rfl
  · rw [getElem?_neg s i h, List.getElem?_eq_none (Nat.le_of_not_lt h)]
theorem bt_bl (s : ByteArray) (i : Nat) : bt s i = ((((bl s)[i]?).getD 0).toNat : Int) := by rw [bt, get_bl]
theorem bn_bl (s : ByteArray) (i : Nat) : bn s i = (((bl s)[i]?).getD 0).toNat := by rw [bn, get_bl]
theorem pb_self (y : UInt8) {x : Int} (h : x = (y.toNat : Int)) : pb x = y := by subst h; simp [pb]

def hd12 (m : Msg) : List UInt8 := [pb (nn m.ext m.n / 16777216), pb (nn m.ext m.n / 65536 % 256), pb (nn m.ext m.n / 256 % 256), pb (nn m.ext m.n % 256), pb m.sender,
  UInt8.ofNat (m.inc / 256).toNat, UInt8.ofNat (m.inc % 256).toNat, UInt8.ofNat (m.seq / 256).toNat, UInt8.ofNat (m.seq % 256).toNat, UInt8.ofNat (m.number / 256).toNat, UInt8.ofNat (m.number % 256).toNat, pb m.data.size]
theorem bl_enc (m : Msg) : bl (encB m) = hd12 m ++ bl m.data := by
  simp only [encB, hdB, bl_append, printB, two]
  rfl
theorem u8of {x : Int} (h0 : 0 ≤ x) (h1 : x < 256) : ((UInt8.ofNat x.toNat).toNat : Int) = x := pb_toNat h0 h1

set_option maxHeartbeats 4000000 in
/-- DECODE UNDOES ENCODE, whatever stands behind -/
theorem dec_enc (m : Msg) (h : m.right = true) (x : ByteArray) : decT (encB m ++ x) = (m, x, 0) := by
  obtain ⟨k1, k2, k3, k4, k5, k6⟩ := right_bounds h
  obtain ⟨a0, a1, a2, a3⟩ := nn_range k1
  obtain ⟨s, hs⟩ : ∃ s, s = encB m ++ x := ⟨_, rfl⟩
  have hb : bl s = hd12 m ++ (bl m.data ++ bl x) := by rw [hs, bl_append, bl_enc, List.append_assoc]
  have b : ∀ i, bt s i = ((((hd12 m ++ (bl m.data ++ bl x))[i]?).getD 0).toNat : Int) := fun i => by rw [bt_bl, hb]
  have b0 : bt s 0 = nn m.ext m.n / 16777216 := (b 0).trans (pb_toNat (by omega) (by omega))
  have b1 : bt s 1 = nn m.ext m.n / 65536 % 256 := (b 1).trans (pb_toNat (by omega) (by omega))
  have b2 : bt s 2 = nn m.ext m.n / 256 % 256 := (b 2).trans (pb_toNat (by omega) (by omega))
  have b3 : bt s 3 = nn m.ext m.n % 256 := (b 3).trans (pb_toNat (by omega) (by omega))
  have b4 : bt s 4 = m.sender := (b 4).trans (pb_toNat (by omega) (by omega))
  have b5 : bt s 5 = m.inc / 256 := (b 5).trans (u8of (by omega) (by omega))
  have b6 : bt s 6 = m.inc % 256 := (b 6).trans (u8of (by omega) (by omega))
  have b7 : bt s 7 = m.seq / 256 := (b 7).trans (u8of (by omega) (by omega))
  have b8 : bt s 8 = m.seq % 256 := (b 8).trans (u8of (by omega) (by omega))
  have b9 : bt s 9 = m.number / 256 := (b 9).trans (u8of (by omega) (by omega))
  have b10 : bt s 10 = m.number % 256 := (b 10).trans (u8of (by omega) (by omega))
  have b11 : bt s 11 = m.data.size := (b 11).trans (pb_toNat (by omega) (by omega))
  have n11 : bn s 11 = m.data.size := by have := bn_bt s 11; omega
  have hsz : s.size = 12 + m.data.size + x.size := by rw [hs, ByteArray.size_append, size_enc]
  have hx4 : ∀ i, i < 4 → bt (s.extract 0 4) i = bt s i := by
    intro i hi
    rw [bt_bl, bt_bl, bl_extract, List.drop_zero, List.getElem?_take, if_pos hi]
  have hN : parN (s.extract 0 4) = nn m.ext m.n := by
    rw [parN, hx4 0 (by omega), hx4 1 (by omega), hx4 2 (by omega), hx4 3 (by omega), b0, b1, b2, b3]
    omega
  have hlim : m.ext = false → m.n ≤ 2047 := fun he => by
    have hr : 0 ≤ m.n ∧ m.n ≤ lim m.ext := by simpa [within] using k1
    rw [he] at hr; exact hr.2
  have hE : parE (s.extract 0 4) = m.ext := by
    rw [parE, hN, nn]
    cases he : m.ext with
    | true => simp; omega
    | false => simp; have := hlim he; omega
  have hI : parI (s.extract 0 4) = m.n := by
    rw [parI, hN, nn]
    cases he : m.ext with
    | true => simp; omega
    | false => simp; have := hlim he; omega
  have hp : parT (s.extract 0 4) = (m.ext, m.n, 0) := by
    have h4 : (s.extract 0 4).size = 4 := by rw [size_extract]; omega
    rw [parT, if_neg (by omega), if_neg (by omega), hI, hE, k1]; rfl
  have hdat : s.extract 12 (12 + m.data.size) = m.data := by
    apply bl_ext
    rw [bl_extract, hb]
    have e1 : (hd12 m ++ (bl m.data ++ bl x)).take (12 + m.data.size) = hd12 m ++ bl m.data := by
      rw [← List.append_assoc]
      exact List.take_left' (by rw [List.length_append]; rfl)
    rw [e1]
    exact List.drop_left' rfl
  have hleft : s.extract (12 + m.data.size) s.size = x := by
    apply bl_ext
    rw [bl_extract, bl_size s, List.take_length, hb, ← List.append_assoc]
    exact List.drop_left' (by rw [List.length_append]; rfl)
  have hm : decM s = m := by
    rw [decM, hp, b4, told_bt, told_bt, told_bt, n11, hdat, b5, b6, b7, b8, b9, b10]
    rw [show 256 * (m.inc / 256) + m.inc % 256 = m.inc by omega, show 256 * (m.seq / 256) + m.seq % 256 = m.seq by omega, show 256 * (m.number / 256) + m.number % 256 = m.number by omega]
  rw [← hs, decT, if_neg (by omega), if_neg (by omega), if_neg (by omega), hm, hp, if_pos ⟨rfl, h⟩, n11, hleft]

set_option maxHeartbeats 4000000 in
/-- WHAT IS DECODED, encoded again, is the bytes that were taken -/
theorem enc_dec {s : ByteArray} {k : Msg} {left : ByteArray} (h : decT s = (k, left, 0)) : k.right = true ∧ encB k ++ left = s := by
  unfold decT at h
  split at h
  · simp at h
  rename_i h1
  split at h
  · simp at h
  rename_i h2
  split at h
  · simp at h
  rename_i h3
  split at h
  · rename_i h4
    simp only [Prod.mk.injEq] at h
    obtain ⟨rfl, rfl, _⟩ := h
    refine ⟨h4.2, ?_⟩
    obtain ⟨k1, k2, k3, k4, k5, k6⟩ := right_bounds h4.2
    apply bl_ext
    rw [bl_append, bl_enc]
    obtain ⟨z, hz⟩ : ∃ z, z = bl s := ⟨_, rfl⟩
    have hlz : 12 ≤ z.length := by rw [hz]; have := bl_size s; omega
    match z, hz, hlz with
    | a0 :: a1 :: a2 :: a3 :: a4 :: a5 :: a6 :: a7 :: a8 :: a9 :: a10 :: a11 :: r, hz, _ =>
      have b : ∀ i, bt s i = ((((a0 :: a1 :: a2 :: a3 :: a4 :: a5 :: a6 :: a7 :: a8 :: a9 :: a10 :: a11 :: r)[i]?).getD 0).toNat : Int) := fun i => by rw [bt_bl, ← hz]
      have n11 : bn s 11 = a11.toNat := by rw [bn_bl, ← hz]; rfl
      have hx4 : ∀ i, i < 4 → bt (s.extract 0 4) i = bt s i := by
        intro i hi
        rw [bt_bl, bt_bl, bl_extract, List.drop_zero, List.getElem?_take, if_pos hi]
      have hN : parN (s.extract 0 4) = 16777216 * (a0.toNat : Int) + 65536 * (a1.toNat : Int) + 256 * (a2.toNat : Int) + (a3.toNat : Int) := by
        rw [parN, hx4 0 (by omega), hx4 1 (by omega), hx4 2 (by omega), hx4 3 (by omega), b 0, b 1, b 2, b 3]; rfl
      have h4s : (s.extract 0 4).size = 4 := by rw [size_extract]; omega
      have hpe : (parT (s.extract 0 4)).1 = parE (s.extract 0 4) ∧ (parT (s.extract 0 4)).2.1 = parI (s.extract 0 4) := by
        have h40 := h4.1
        unfold parT at h40 ⊢
        rw [if_neg (by omega), if_neg (by omega)] at h40 ⊢
        cases hw : within (parI (s.extract 0 4)) (parE (s.extract 0 4)) with
        | true => exact ⟨rfl, rfl⟩
        | false => rw [hw] at h40; exact absurd (show (2 : Int) = 0 from h40) (by decide)
      have r0 := parN_range (s.extract 0 4)
      have hnn : nn (decM s).ext (decM s).n = parN (s.extract 0 4) := by
        show nn (parT (s.extract 0 4)).1 (parT (s.extract 0 4)).2.1 = _
        rw [hpe.1, hpe.2, nn, parE, parI]
        by_cases hc : 2147483648 ≤ parN (s.extract 0 4)
        · simp [hc]; omega
        · simp [hc]; omega
      have t0 := a0.toNat_lt
      have t1 := a1.toNat_lt
      have t2 := a2.toNat_lt
      have t3 := a3.toNat_lt
      have t5 := a5.toNat_lt
      have t6 := a6.toNat_lt
      have t7 := a7.toNat_lt
      have t8 := a8.toNat_lt
      have t9 := a9.toNat_lt
      have t10 := a10.toNat_lt
      have e5 : (decM s).inc = 256 * (a5.toNat : Int) + (a6.toNat : Int) := by show told s 5 = _; rw [told_bt, b 5, b 6]; rfl
      have e7 : (decM s).seq = 256 * (a7.toNat : Int) + (a8.toNat : Int) := by show told s 7 = _; rw [told_bt, b 7, b 8]; rfl
      have e9 : (decM s).number = 256 * (a9.toNat : Int) + (a10.toNat : Int) := by show told s 9 = _; rw [told_bt, b 9, b 10]; rfl
      have e4 : (decM s).sender = (a4.toNat : Int) := b 4
      have esz : ((decM s).data.size : Int) = (a11.toNat : Int) := by
        show ((s.extract 12 (12 + bn s 11)).size : Int) = _
        rw [size_extract, n11]
        have := bl_size s
        omega
      have hhd : hd12 (decM s) = [a0, a1, a2, a3, a4, a5, a6, a7, a8, a9, a10, a11] := by
        rw [hd12, hnn, hN]
        have p0 : pb ((16777216 * (a0.toNat : Int) + 65536 * (a1.toNat : Int) + 256 * (a2.toNat : Int) + (a3.toNat : Int)) / 16777216) = a0 := pb_self a0 (by omega)
        have p1 : pb ((16777216 * (a0.toNat : Int) + 65536 * (a1.toNat : Int) + 256 * (a2.toNat : Int) + (a3.toNat : Int)) / 65536 % 256) = a1 := pb_self a1 (by omega)
        have p2 : pb ((16777216 * (a0.toNat : Int) + 65536 * (a1.toNat : Int) + 256 * (a2.toNat : Int) + (a3.toNat : Int)) / 256 % 256) = a2 := pb_self a2 (by omega)
        have p3 : pb ((16777216 * (a0.toNat : Int) + 65536 * (a1.toNat : Int) + 256 * (a2.toNat : Int) + (a3.toNat : Int)) % 256) = a3 := pb_self a3 (by omega)
        have p4 : pb (decM s).sender = a4 := pb_self a4 e4
        have p5 : UInt8.ofNat ((decM s).inc / 256).toNat = a5 := pb_self a5 (by omega)
        have p6 : UInt8.ofNat ((decM s).inc % 256).toNat = a6 := pb_self a6 (by omega)
        have p7 : UInt8.ofNat ((decM s).seq / 256).toNat = a7 := pb_self a7 (by omega)
        have p8 : UInt8.ofNat ((decM s).seq % 256).toNat = a8 := pb_self a8 (by omega)
        have p9 : UInt8.ofNat ((decM s).number / 256).toNat = a9 := pb_self a9 (by omega)
        have p10 : UInt8.ofNat ((decM s).number % 256).toNat = a10 := pb_self a10 (by omega)
        have p11 : pb ((decM s).data.size : Int) = a11 := pb_self a11 esz
        rw [p0, p1, p2, p3, p4, p5, p6, p7, p8, p9, p10, p11]
      have hd2 : bl (decM s).data = r.take a11.toNat := by
        show bl (s.extract 12 (12 + bn s 11)) = _
        rw [bl_extract, ← hz, n11]
        have : 12 + a11.toNat = a11.toNat + 1 + 1 + 1 + 1 + 1 + 1 + 1 + 1 + 1 + 1 + 1 + 1 := by omega
        rw [this]; rfl
      have hl2 : bl (s.extract (12 + bn s 11) s.size) = r.drop a11.toNat := by
        rw [bl_extract, bl_size s, List.take_length, ← hz, n11]
        have : 12 + a11.toNat = a11.toNat + 1 + 1 + 1 + 1 + 1 + 1 + 1 + 1 + 1 + 1 + 1 + 1 := by omega
        rw [this]; rfl
      rw [hhd, hd2, hl2, ← hz, List.append_assoc, List.take_append_drop]
      rfl
  · simp at h
/-- what is not decoded is told as nothing -/
theorem dec_err {s : ByteArray} {k : Msg} {left : ByteArray} {c : Int} (h : decT s = (k, left, c)) (hc : c ≠ 0) : k = zmsg ∧ left = ⟨#[]⟩ ∧ (c = 2 ∨ c = 3) := by
  unfold decT at h
  split at h
  · simp at h; obtain ⟨rfl, rfl, rfl⟩ := h; exact ⟨rfl, rfl, .inr rfl⟩
  split at h
  · simp at h; obtain ⟨rfl, rfl, rfl⟩ := h; exact ⟨rfl, rfl, .inl rfl⟩
  split at h
  · simp at h; obtain ⟨rfl, rfl, rfl⟩ := h; exact ⟨rfl, rfl, .inr rfl⟩
  split at h
  · simp only [Prod.mk.injEq] at h; exact absurd h.2.2.symm hc
  · simp at h; obtain ⟨rfl, rfl, rfl⟩ := h; exact ⟨rfl, rfl, .inl rfl⟩
end Go.Proofs.YtokomdenoegkgaaDoor
