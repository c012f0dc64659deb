/-
  Layer 4: the law MsgBack.
-/
import Derived.Test.YtokomdenoegkgaaDoorOQ04
set_option linter.unusedVariables false
set_option linter.unusedSimpArgs false
set_option maxRecDepth 100000
namespace Go.Proofs.YtokomdenoegkgaaDoor
open Go Go.Proofs.YtokomdenoegkgaaDoor.Abs

/-- six numbers -/
structure R6 where
  a : Int
  b : Int
  c : Int
  d : Int
  e : Int
  f : Int
abbrev R6.L (r : R6) : List L := [L.int r.a, L.int r.b, L.int r.c, L.int r.d, L.int r.e, L.int r.f]
def R6.ok (r : R6) : Prop := InR r.a ∧ InR r.b ∧ InR r.c ∧ InR r.d ∧ InR r.e ∧ InR r.f
def Rl (l : List R6) : List (List L) := l.map R6.L
theorem Rl_length (l : List R6) : (Rl l).length = l.length := by simp [Rl]
theorem Rl_get (l : List R6) (k : Nat) : (Rl l)[k]? = (l[k]?).map R6.L := by simp [Rl]
abbrev Rs (l : List R6) : V := .d (.l (.sl 6 (Rl l)))
/-- the message of raw numbers -/
def R6.msg (r : R6) (data : ByteArray) : Msg := mkMsg r.a r.b r.c r.d r.e r.f data
theorem msg_ok (r : R6) (hr : r.ok) (data : ByteArray) : M 16 [.d (.agg r.L), .str data] (r.msg data).V := message_ok r.a r.b r.c r.d r.e r.f data hr.1 hr.2.1 hr.2.2.1 hr.2.2.2.1 hr.2.2.2.2.1 hr.2.2.2.2.2
theorem mayOk {c : Bool} {n : Int} (h0 : 0 ≤ n) (h : n < cond c 536870912 2048) : within n c = true := by
  cases c
  · replace h : n < 2048 := h
    rw [within, decide_eq_true h0, decide_eq_true (show n ≤ lim false by show n ≤ 2047; omega)]; rfl
  · replace h : n < 536870912 := h
    rw [within, decide_eq_true h0, decide_eq_true (show n ≤ lim true by show n ≤ 536870911; omega)]; rfl
theorem cpos (c : Bool) : 0 < (cond c 536870912 2048 : Int) := by cases c <;> simp
theorem msg_within (r : R6) (data : ByteArray) : within (r.msg data).n (r.msg data).ext = true := by
  show within (idN r.a r.b) (idE r.b) = true
  rw [idN, idE]
  split
  · have := pick_range (c := r.a) (n := cond (pick r.b 2 == 0) 536870912 2048) (cpos _)
    exact mayOk this.1 this.2
  · have := pick_range (c := pick r.a 5) (n := cond (pick r.b 3 == 0) 536870912 2048) (cpos _)
    exact mayOk this.1 this.2
theorem msg_right (r : R6) (data : ByteArray) : (r.msg data).right = true := by
  have p2 := pick_range (c := r.c) (n := 16) (by omega)
  have p3 := pick_range (c := r.d) (n := 65535) (by omega)
  have p4 := pick_range (c := r.e) (n := 65535) (by omega)
  have p5 := pick_range (c := r.f) (n := 65535) (by omega)
  rw [Msg.right, msg_within]
  have e : ((r.msg data).data.size : Int) ≤ 8 := by
    show ((data.extract 0 (min data.size 8)).size : Int) ≤ 8
    rw [size_extract]; omega
  have a1 : (r.msg data).sender = pick r.c 16 := rfl
  have a2 : (r.msg data).inc = 1 + pick r.d 65535 := rfl
  have a3 : (r.msg data).seq = 1 + pick r.e 65535 := rfl
  have a4 : (r.msg data).number = 1 + pick r.f 65535 := rfl
  rw [a1, a2, a3, a4]
  simp [small, p2, e]
  omega
theorem enc_right {m : Msg} (h : m.right = true) : M 10 [m.V] (.tup [.str (encB m), .int 0]) := by
  have := encode_ok m
  rw [encR, h] at this
  exact this
theorem dec_back {m : Msg} (h : m.right = true) (x : ByteArray) (hx : x.size ≤ 1000000) : M 18 [.str (encB m ++ x)] (.tup [m.V, .str x, .int 0]) := by
  have hb := right_bounds h
  have := decode_ok (encB m ++ x) (by rw [ByteArray.size_append, size_enc]; omega)
  rw [decR, dec_enc m h x] at this
  exact this
theorem same_self (m : Msg) : m.same m = true := (Msg.same_iff m m).2 rfl
/-- a text's beginning -/
def cutS (s : ByteArray) (n : Nat) : ByteArray := s.extract 0 (min s.size n)
theorem cutS_size (s : ByteArray) (n : Nat) : (cutS s n).size = min s.size n := by rw [cutS, size_extract]; omega

set_option maxHeartbeats 1000000 in
theorem back_law (r : R6) (hr : r.ok) (data s : ByteArray) : M 5 [.d (.agg r.L), .str data, .str s] (.bool true) := by
  obtain ⟨m, hm⟩ : ∃ m, m = r.msg data := ⟨_, rfl⟩
  have hmr : m.right = true := by rw [hm]; exact msg_right r data
  have hb1 := right_bounds hmr
  have hmo := msg_ok r hr data
  rw [← hm] at hmo
  have hx := cutS_size s 200
  refine go5 rfl rfl fun hb => ?_
  refine ⟨_, awake_ok, ?_⟩
  refine ⟨_, hmo, ?_⟩
  refine ⟨min s.size 200, ⟨by omega, by omega⟩, ?_⟩
  refine ⟨_, enc_right hmr, ?_⟩
  refine ⟨by show (encB m).size + (cutS s 200).size ≤ _; rw [size_enc]; omega, ?_⟩
  refine ⟨_, dec_back hmr (cutS s 200) (by omega), ?_⟩
  refine ⟨fun h => ?_, fun _ => ?_⟩
  · exfalso
    have h : (cond (cond (cond (cond (0 != (0 : Int)) true (0 != (0 : Int))) true (!m.same m)) true (!((cutS s 200).toList == (cutS s 200).toList))) true (!(((encB m).size : Int) == IntKind.i64.wrap (12 + (m.data.size : Int))))) = true := h
    rw [same_self, wrap64 (by omega) (by omega), size_enc] at h
    simp at h
  obtain ⟨k, left, c, hd⟩ : ∃ k left c, decT (cutS s 200) = (k, left, c) := ⟨_, _, _, rfl⟩
  have hdo := decode_ok (cutS s 200) (by omega)
  rw [decR, hd] at hdo
  refine ⟨_, hdo, ?_⟩
  refine ⟨fun h => ?_, fun h => ?_⟩
  · have h : c ≠ 0 := by simpa using h
    obtain ⟨rfl, rfl, _⟩ := dec_err hd h
    refine ⟨⟨L.le_of_eq (congrArg L.bool ?_), trivial⟩, trivial, rfl, rfl⟩
    simp [eqCells, eqC]
  · have h : c = 0 := by simpa using h
    subst h
    obtain ⟨hk, he⟩ := enc_dec hd
    have hsz : (encB k).size + left.size ≤ 200 := by rw [← ByteArray.size_append, he]; omega
    refine ⟨_, enc_right hk, ?_⟩
    refine ⟨fun _ => by omega, ?_⟩
    refine ⟨⟨L.le_of_eq (congrArg L.bool ?_), trivial⟩, trivial, rfl, rfl⟩
    have e2 : ((encB k ++ left).toList == (cutS s 200).toList) = true := by rw [he]; simp
    show cond (cond true (0 == (0 : Int)) false) ((encB k ++ left).toList == (cutS s 200).toList) false = true
    rw [e2]; rfl
end Go.Proofs.YtokomdenoegkgaaDoor
