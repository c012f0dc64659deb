/-
  Layer 4: the law MsgRows.
-/
import Derived.Test.YtokomdenoegkgaaDoorOL04
set_option linter.unusedVariables false
set_option linter.unusedSimpArgs false
set_option maxRecDepth 100000
namespace Go.Proofs.YtokomdenoegkgaaDoor
open Go Go.Proofs.YtokomdenoegkgaaDoor.Abs

/-- cut, it is too short -/
theorem dec_cut (m : Msg) (h : m.right = true) (k : Nat) (hk : k < (encB m).size) : decT ((encB m).extract 0 k) = (zmsg, ⟨#[]⟩, 3) := by
  obtain ⟨k1, k2, k3, k4, k5, k6⟩ := right_bounds h
  have hs : ((encB m).extract 0 k).size = k := by rw [size_extract]; omega
  rw [size_enc] at hk
  by_cases h12 : k < 12
  · rw [decT, if_pos (by omega)]
  · have n11 : bn ((encB m).extract 0 k) 11 = m.data.size := by
      have : (bn ((encB m).extract 0 k) 11 : Int) = m.data.size := by
        rw [bn_bl, bl_extract, List.drop_zero, List.getElem?_take, if_pos (by omega), bl_enc]
        exact pb_toNat (by omega) (by omega)
      omega
    rw [decT, if_neg (by omega), n11, if_neg (by omega), if_pos (by omega)]
theorem dec_short {m : Msg} (h : m.right = true) (k : Nat) (hk : k < (encB m).size) : M 18 [.str ((encB m).extract 0 k)] (.tup [zmsg.V, .str ⟨#[]⟩, .int 3]) := by
  have hb := right_bounds h
  have hs := size_enc m
  have := decode_ok ((encB m).extract 0 k) (by rw [size_extract]; omega)
  rw [decR, dec_cut m h k hk] at this
  exact this

abbrev r0 : R6 := ⟨0, 0, 0, 0, 0, 0⟩
def msA (raw : List R6) (data : ByteArray) (i : Nat) : Msg := (raw.getD i r0).msg data
theorem msA_right (raw : List R6) (data : ByteArray) (i : Nat) : (msA raw data i).right = true := msg_right _ _
def catB (raw : List R6) (data : ByteArray) : Nat → ByteArray
  | 0 => ⟨#[]⟩
  | k + 1 => catB raw data k ++ encB (msA raw data k)
def rstB (raw : List R6) (data : ByteArray) : Nat → Nat → ByteArray
  | _, 0 => ⟨#[]⟩
  | j, c + 1 => encB (msA raw data j) ++ rstB raw data (j + 1) c
theorem enc_size20 (m : Msg) (h : m.right = true) : 12 ≤ (encB m).size ∧ (encB m).size ≤ 20 := by
  have := right_bounds h
  rw [size_enc]; omega
theorem catB_size (raw : List R6) (data : ByteArray) : ∀ k, (catB raw data k).size ≤ 20 * k
  | 0 => Nat.le_refl _
  | k + 1 => by
    have := catB_size raw data k
    have h := enc_size20 _ (msA_right raw data k)
    rw [catB, ByteArray.size_append]; omega
theorem rstB_size (raw : List R6) (data : ByteArray) : ∀ c j, (rstB raw data j c).size ≤ 20 * c
  | 0, _ => Nat.le_refl _
  | c + 1, j => by
    have := rstB_size raw data c (j + 1)
    have h := enc_size20 _ (msA_right raw data j)
    rw [rstB, ByteArray.size_append]; omega
theorem app_nil (s : ByteArray) : s ++ (⟨#[]⟩ : ByteArray) = s := by apply bl_ext; simp [bl_append, bl]
theorem nil_app (s : ByteArray) : (⟨#[]⟩ : ByteArray) ++ s = s := by apply bl_ext; simp [bl_append, bl]
theorem app_assoc (s t u : ByteArray) : s ++ t ++ u = s ++ (t ++ u) := by apply bl_ext; simp [bl_append]
theorem cat_rst (raw : List R6) (data : ByteArray) : ∀ c k, catB raw data k ++ rstB raw data k c = catB raw data (k + c)
  | 0, k => app_nil _
  | c + 1, k => by
    rw [rstB, ← app_assoc]
    have := cat_rst raw data c (k + 1)
    rw [catB] at this
    rw [this]
    congr 1; omega
theorem cat_all (raw : List R6) (data : ByteArray) (n : Nat) : catB raw data n = rstB raw data 0 n := by
  have := cat_rst raw data n 0
  rw [Nat.zero_add] at this
  rw [← this]; exact nil_app _

set_option maxHeartbeats 1000000 in
theorem rows_law (raw : List R6) (data : ByteArray) (at' : Int) (hr : ∀ r ∈ raw, r.ok) (ha : InR at') (hlen : raw.length ≤ 9223372036854775807) : M 8 [Rs raw, .str data, .int at'] (.bool true) := by
  have hml := Rl_length raw
  have hget : ∀ k (h : k < raw.length), raw.getD k r0 = raw[k] := fun k h => by simp [List.getD_eq_getElem?_getD, h]
  refine go8 rfl rfl fun hb => ?_
  refine ⟨_, awake_ok, ?_⟩
  refine ⟨Nat, fun i => ⟨[(0, Rs raw), (1, .str data), (2, .int at'), (7, .bool true), (8, .str (catB raw data i)), (9, .int i)], ⟨[], [], 900000, 0⟩⟩, fun i => i ≤ raw.length ∧ i ≤ 8, fun i => 8 - i, 0, ⟨Nat.zero_le _, Nat.zero_le _⟩, ?_, ?_⟩
  · exact ⟨⟨L.le_refl _, L.le_refl _, L.le_refl _, L.le_refl _, L.le_refl _, L.le_refl _, trivial⟩, trivial, rfl, rfl⟩
  rintro i ⟨hi, hi8⟩ _
  have hcs := catB_size raw data i
  refine ⟨fun hc => ?_, fun hc => ?_⟩
  · have hc : i < raw.length ∧ (i : Int) < 8 := by
      rw [cond_and] at hc
      simpa [hml] using hc
    have hc : i < raw.length ∧ i < 8 := ⟨hc.1, by omega⟩
    have hmo := msg_ok raw[i] (hr _ (List.getElem_mem hc.1)) data
    have hma : msA raw data i = raw[i].msg data := by rw [msA, hget i hc.1]
    rw [← hma] at hmo
    have hmr := msA_right raw data i
    have h20 := enc_size20 _ hmr
    refine ⟨raw[i].L, ⟨i, rfl, by simp [Rl_get, hc.1]⟩, ?_⟩
    refine ⟨_, hmo, ?_⟩
    refine ⟨_, enc_right hmr, ?_⟩
    refine ⟨fun h => absurd h (by decide), fun _ => ?_⟩
    refine ⟨by show (catB raw data i).size + (encB (msA raw data i)).size ≤ _; omega, ?_⟩
    refine ⟨i + 1, ⟨hc.1, hc.2⟩, by show 8 - (i + 1) < 8 - i; omega, ?_⟩
    refine ⟨⟨L.le_refl _, L.le_refl _, L.le_refl _, L.le_refl _, L.le_refl _, L.le_of_eq (congrArg L.int ?_), trivial⟩, trivial, rfl, rfl⟩
    rw [wrap64 (by omega) (by omega)]; rfl
  · obtain ⟨n, hn⟩ : ∃ n, n = min raw.length 8 := ⟨_, rfl⟩
    have hin : i = n := by
      have : ¬ (i < raw.length ∧ i < 8) := by
        rintro ⟨q1, q2⟩
        rw [cond_and] at hc
        have e1 : ((i : Int) < ((Rl raw).length : Int)) := by rw [hml]; omega
        have e2 : ((i : Int) < 8) := by omega
        simp [e1, e2] at hc
      omega
    subst hin
    refine ⟨Nat, fun j => ⟨[(0, Rs raw), (1, .str data), (2, .int at'), (7, .bool true), (12, .str (rstB raw data j (i - j))), (13, .int j)], ⟨[], [], 800000, 0⟩⟩, fun j => j ≤ i, fun j => i - j, 0, Nat.zero_le _, ?_, ?_⟩
    · exact ⟨⟨L.le_refl _, L.le_refl _, L.le_refl _, L.le_refl _, L.le_of_eq (congrArg L.str (cat_all raw data i)), L.le_refl _, trivial⟩, trivial, rfl, rfl⟩
    rintro j hj _
    have hj : j ≤ i := hj
    refine ⟨fun hc => ?_, fun hc => ?_⟩
    · have hc : j < raw.length ∧ (j : Int) < 8 := by
        rw [cond_and] at hc
        simpa [hml] using hc
      have hc : j < raw.length ∧ j < 8 := ⟨hc.1, by omega⟩
      have hji : j < i := by omega
      have hmo := msg_ok raw[j] (hr _ (List.getElem_mem hc.1)) data
      have hma : msA raw data j = raw[j].msg data := by rw [msA, hget j hc.1]
      rw [← hma] at hmo
      have hmr := msA_right raw data j
      have h20 := enc_size20 _ hmr
      have hrs := rstB_size raw data (i - (j + 1)) (j + 1)
      have hsp : rstB raw data j (i - j) = encB (msA raw data j) ++ rstB raw data (j + 1) (i - (j + 1)) := by
        obtain ⟨c, hcj⟩ : ∃ c, i - j = c + 1 := ⟨i - j - 1, by omega⟩
        rw [hcj, show i - (j + 1) = c by omega]; rfl
      have hde := dec_back hmr (rstB raw data (j + 1) (i - (j + 1))) (by omega)
      rw [← hsp] at hde
      refine ⟨_, hde, ?_⟩
      refine ⟨raw[j].L, fun _ => ⟨j, rfl, by simp [Rl_get, hc.1]⟩, ?_⟩
      refine ⟨_, fun _ => hmo, ?_⟩
      refine ⟨rfl, ?_⟩
      refine ⟨fun h => ?_, fun _ => ?_⟩
      · exfalso
        have h : cond (0 != (0 : Int)) true (!(msA raw data j).same (msA raw data j)) = true := h
        rw [same_self] at h
        exact absurd h (by decide)
      have hnext : ∀ (e : Int), e = IntKind.i64.wrap ((j : Int) + 1) → e = ((j + 1 : Nat) : Int) := fun e he => by rw [he, wrap64 (by omega) (by omega)]; omega
      refine ⟨fun h => ?_, fun h => ?_⟩
      · have hlast : j + 1 = i := by
          have h : cond ((j : Int) == IntKind.i64.wrap ((Rl raw).length - 1)) true ((j : Int) == 7) = true := h
          rw [hml] at h
          by_cases h7 : (j : Int) = 7
          · omega
          · have : ((j : Int) == 7) = false := by simp [h7]
            rw [this] at h
            have h : ((j : Int) == IntKind.i64.wrap ((raw.length : Int) - 1)) = true := by
              cases hq : ((j : Int) == IntKind.i64.wrap ((raw.length : Int) - 1)) with
              | true => rfl
              | false => rw [hq] at h; exact h
            rw [wrap64 (by omega) (by omega)] at h
            have : (j : Int) = (raw.length : Int) - 1 := by simpa using h
            omega
        have hone : rstB raw data j (i - j) = encB (msA raw data j) := by
          rw [hsp, show i - (j + 1) = 0 by omega]; exact app_nil _
        have hmx : max ((rstB raw data j (i - j)).size : Int) 1 = ((encB (msA raw data j)).size : Int) := by rw [hone]; omega
        obtain ⟨sz, hsz⟩ : ∃ sz : Int, sz = max ((rstB raw data j (i - j)).size : Int) 1 := ⟨_, rfl⟩
        have hpk := pick_ok at' sz ha (by omega)
        have hpr := pick_range (c := at') (n := sz) (by omega)
        rw [hsz] at hpk
        refine ⟨_, hpk, ?_⟩
        rw [← hsz]
        have hkk : (pick at' sz).toNat < (encB (msA raw data j)).size := by omega
        refine ⟨(pick at' sz).toNat, ⟨by omega, by rw [hone]; omega⟩, ?_⟩
        have hsh := dec_short hmr (pick at' sz).toNat hkk
        rw [← hone] at hsh
        refine ⟨_, hsh, ?_⟩
        refine ⟨fun h => absurd h (by decide), fun _ => ?_⟩
        refine ⟨j + 1, by omega, by show i - (j + 1) < i - j; omega, ?_⟩
        exact ⟨⟨L.le_refl _, L.le_refl _, L.le_refl _, L.le_refl _, L.le_refl _, L.le_of_eq (congrArg L.int (hnext _ rfl)), trivial⟩, trivial, rfl, rfl⟩
      · refine ⟨j + 1, by omega, by show i - (j + 1) < i - j; omega, ?_⟩
        exact ⟨⟨L.le_refl _, L.le_refl _, L.le_refl _, L.le_refl _, L.le_refl _, L.le_of_eq (congrArg L.int (hnext _ rfl)), trivial⟩, trivial, rfl, rfl⟩
    · have hji : j = i := by
        have : ¬ (j < raw.length ∧ j < 8) := by
          rintro ⟨q1, q2⟩
          rw [cond_and] at hc
          have e1 : ((j : Int) < ((Rl raw).length : Int)) := by rw [hml]; omega
          have e2 : ((j : Int) < 8) := by omega
          simp [e1, e2] at hc
        omega
      subst hji
      refine ⟨⟨L.le_of_eq (congrArg L.bool ?_), trivial⟩, trivial, rfl, rfl⟩
      have : rstB raw data j (j - j) = ⟨#[]⟩ := by rw [Nat.sub_self]; rfl
      rw [this]
      simp
end Go.Proofs.YtokomdenoegkgaaDoor
