/-
  Layer 13: the laws' own functions; awake.
-/
import Derived.Test.YthcbdpghfefnlaaDoorOY13
set_option linter.unusedVariables false
set_option linter.unusedSimpArgs false
set_option maxRecDepth 100000
namespace Go.Proofs.YthcbdpghfefnlaaDoor
open Go Go.Proofs.YthcbdpghfefnlaaDoor.Abs

theorem pick13_ok (c n : Int) (hc : InR c) (hn : 0 < n) : M 14 [.int c, .int n] (.int (pick c n)) := by
  refine go14 rfl rfl fun hb => ?_
  refine ⟨fun h => ?_, fun h => ?_⟩
  · have hlt : c < 0 := by simpa using h
    refine ⟨⟨rfl, by omega⟩, ⟨⟨L.le_of_eq ?_, trivial⟩, trivial, rfl, rfl⟩⟩
    rw [wrap64 (x := c + 1) (by omega) (by omega), wrap64 (by omega) (by omega), pick, if_pos hlt]
    simp
  · have hge : ¬ c < 0 := by simpa using h
    refine ⟨⟨rfl, by omega⟩, ⟨⟨L.le_of_eq ?_, trivial⟩, trivial, rfl, rfl⟩⟩
    rw [pick, if_neg hge]
/-- six numbers -/
structure R6 where
  a : Int
  b : Int
  c : Int
  d : Int
  e : Int
  f : Int
abbrev R6.L (r : R6) : List L := [L.int r.a, L.int r.b, L.int r.c, L.int r.d, L.int r.e, L.int r.f]
def R6.ok (r : R6) : Prop := InR r.a ∧ InR r.b ∧ InR r.c ∧ InR r.d ∧ InR r.e ∧ InR r.f
def Rl (l : List R6) : List (List L) := l.map R6.L
theorem Rl_length (l : List R6) : (Rl l).length = l.length := by simp [Rl]
theorem Rl_get (l : List R6) (k : Nat) : (Rl l)[k]? = (l[k]?).map R6.L := by simp [Rl]
abbrev Rs (l : List R6) : V := .d (.l (.sl 6 (Rl l)))
def numd (r : R6) (n : Int) : Msg := { mkMsg r.a r.b r.c r.d r.e r.f ⟨#[100]⟩ with number := n }
theorem numd_ok (r : R6) (hr : r.ok) (n : Int) : M 21 [.d (.agg r.L), .int n] (numd r n).V := by
  obtain ⟨h0, h1, h2, h3, h4, h5⟩ := hr
  refine go21 rfl rfl fun hb => ?_
  refine ⟨_, message_ok r.a r.b r.c r.d r.e r.f ⟨#[100]⟩ h0 h1 h2 h3 h4 h5, ?_⟩
  exact ⟨⟨m7 (numd r n), trivial⟩, trivial, rfl, rfl⟩
def Que.same (a b : Que) : Bool := (a.lim == b.lim) && sameL a.msgs b.msgs
theorem qsame_ok (a b : Que) : M 11 [a.V, b.V] (.bool (a.same b)) := by
  refine go11 rfl rfl fun hb => ?_
  refine ⟨_, fun _ => same_ok a.msgs b.msgs, ?_⟩
  refine ⟨⟨L.le_of_eq ?_, trivial⟩, trivial, rfl, rfl⟩
  rw [Que.same]
  cases a.lim == b.lim <;> rfl

/-! awake -/
abbrev ma : Msg := ⟨false, 5, 0, 1, 1, 1, ⟨#[]⟩⟩
abbrev mb : Msg := ⟨false, 3, 0, 1, 1, 2, ⟨#[]⟩⟩
theorem aw1 : putR ⟨2, []⟩ ma = (⟨2, [ma]⟩, 0) := by rfl
theorem aw2 : putR ⟨2, [ma]⟩ mb = (⟨2, [mb, ma]⟩, 0) := by rfl
theorem aw3 : putR ⟨2, [mb, ma]⟩ ma = (⟨2, [mb, ma]⟩, 42) := by rfl
theorem aw4 : takenR ⟨2, [mb, ma]⟩ (fun _ => true) = .tup [Que.V ⟨2, [ma]⟩, mb.V, .int 0] := by rfl
theorem aw5 : takenR ⟨2, [ma]⟩ (fun _ => true) = .tup [Que.V ⟨2, []⟩, ma.V, .int 0] := by rfl
theorem aw6 : takenR ⟨2, []⟩ (fun _ => true) = .tup [Que.V ⟨2, []⟩, dmsg.V, .int 41] := by rfl
theorem aw7 : takenR ⟨2, [mb, ma]⟩ (fun m => m.number == 1) = .tup [Que.V ⟨2, [mb]⟩, ma.V, .int 0] := by rfl
theorem aw8 : firstR ⟨2, [mb, ma]⟩ = .tup [mb.V, .bool true] := by rfl
theorem aw9 : Que.right ⟨2, [mb, ma]⟩ = true := by rfl
theorem awake_ok : M 8 [] (.bool true) := by
  refine go8 rfl rfl fun hb => ?_
  refine ⟨_, (new_ok 2 : M 9 [.int 2] (.tup [Qnil 2, .int 0])), ?_⟩
  refine ⟨_, by have := put_nil 2 ma; rw [aw1] at this; exact this, ?_⟩
  refine ⟨_, by have := put_cons ⟨2, [ma]⟩ mb (by decide) (by simp); rw [aw2] at this; exact this, ?_⟩
  refine ⟨_, by have := put_cons ⟨2, [mb, ma]⟩ ma (by decide) (by simp); rw [aw3] at this; exact this, ?_⟩
  refine ⟨_, by have := first_ok ⟨2, [mb, ma]⟩ (by decide); rw [aw8] at this; exact this, ?_⟩
  refine ⟨_, by have := take_ok ⟨2, [mb, ma]⟩ (by decide); rw [aw4] at this; exact this, ?_⟩
  refine ⟨_, by have := take_ok ⟨2, [ma]⟩ (by decide); rw [aw5] at this; exact this, ?_⟩
  refine ⟨_, by have := take_ok ⟨2, []⟩ (by decide); rw [aw6] at this; exact this, ?_⟩
  refine ⟨_, by have := abort_ok ⟨2, [mb, ma]⟩ 1 (by decide); rw [aw7] at this; exact this, ?_⟩
  refine ⟨_, (new_ok 0 : M 9 [.int 0] (.tup [Qnil 0, .int 1])), ?_⟩
  refine ⟨_, fun _ => by have := qright_ok ⟨2, [mb, ma]⟩ (by decide); rw [aw9] at this; exact this, ?_⟩
  exact ⟨⟨L.le_of_eq (by simp [eqCells, eqC]), trivial⟩, trivial, rfl, rfl⟩
end Go.Proofs.YthcbdpghfefnlaaDoor
