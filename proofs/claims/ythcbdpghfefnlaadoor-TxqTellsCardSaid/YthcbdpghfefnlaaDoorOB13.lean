/-
  Layer 13: the law TxqTells.
-/
import Derived.Test.YthcbdpghfefnlaaDoorOA13
set_option linter.unusedVariables false
set_option linter.unusedSimpArgs false
set_option maxRecDepth 100000
namespace Go.Proofs.YthcbdpghfefnlaaDoor
open Go Go.Proofs.YthcbdpghfefnlaaDoor.Abs

theorem putA_ok (q : Que) (m : Msg) (hq : q.msgs.length ≤ 1000000) : M 22 [q.N, m.V] (.tup [(putR q m).1.V, .int (putR q m).2]) := by
  obtain ⟨lim, ms⟩ := q
  cases ms with
  | nil => exact put_nil lim m
  | cons x l => exact put_cons ⟨lim, x :: l⟩ m hq (by simp)
theorem ownRef_nil (lim : Int) : M 13 [Que.N ⟨lim, []⟩] (Que.N ⟨lim, []⟩) := by
  refine gb13 [(7, 1)] [] rfl rfl fun hb => ?_
  refine .inl ⟨rfl, ?_⟩
  refine ⟨rfl, ?_⟩
  exact ⟨⟨⟨L.le_refl _, L.le_refl _, trivial⟩, trivial⟩, trivial, rfl, rfl⟩
theorem ownRef_nil' (q : Que) (h : q.msgs = []) : M 13 [q.N] (Qnil q.lim) := by
  obtain ⟨lim, ms⟩ := q
  have h : ms = [] := h
  subst h
  exact ownRef_nil lim
theorem ml_eq {q : Que} (h : q.msgs ≠ []) : q.ml = .sl 7 (Ml q.msgs) := by
  obtain ⟨lim, ms⟩ := q
  cases ms with
  | nil => exact absurd rfl h
  | cons x l => rfl
theorem ml_nil {q : Que} (h : q.msgs = []) : q.ml = .nil := by
  obtain ⟨lim, ms⟩ := q
  have h : ms = [] := h
  subst h
  rfl
theorem ownRef_tok (q : Que) (hq : q.msgs.length ≤ 1000000) : M 13 [q.N] (.agg [.int q.lim, .own 5 7 (Ml q.msgs)]) := by
  have hml := Ml_length q.msgs
  refine toN ?_
  refine go13 rfl rfl fun hb => ?_
  have b1 : (([] : List (List L)).length + (Ml q.msgs).length) * 64 ≤ 140737488355328 := by rw [hml]; simp only [List.length_nil]; omega
  refine ⟨b1, ?_⟩
  refine ⟨rfl, ?_⟩
  exact ⟨⟨⟨L.le_refl _, ⟨rfl, L.le_refl _⟩, trivial⟩, trivial⟩, trivial, rfl, rfl⟩
theorem firstR_tup (q : Que) : ∃ (m : Msg) (b : Bool), firstR q = .tup [m.V, .bool b] := by
  rw [firstR]
  cases q.right with
  | false => exact ⟨_, _, rfl⟩
  | true => cases q.msgs with
    | nil => exact ⟨_, _, rfl⟩
    | cons m l => exact ⟨_, _, rfl⟩
abbrev Que.NL (q : Que) : List Abs.L := [Abs.L.int q.lim, q.ml]
/-- what is shown later, once -/
structure Hid (A : Prop) : Prop where
  of : A
theorem cut {A B : Prop} (h : Hid A → B) (k : A) : B := h ⟨k⟩

set_option maxHeartbeats 8000000 in
theorem tells_law (a : Int) (raw : List R6) (r : R6) (m : Msg) (odd : List Msg) (how number : Int) (ha : InR a) (hr : ∀ r ∈ raw, r.ok) (hr6 : r.ok) (hh : InR how) (hn : InR number) (ho : odd.length ≤ 9223372036854775807) : M 3 [.int a, Rs raw, .d (.agg r.L), m.V, Ms odd, .int how, .int number] (.bool true) := by
  obtain ⟨hg, hof⟩ := queue_spec a raw hr
  obtain ⟨q, hq⟩ : ∃ q, q = queue a raw := ⟨_, rfl⟩
  have hqu := queue_ok a raw ha hr
  rw [← hq] at hg hof hqu
  have hl32 := hg.len32
  have hml := Ml_length q.msgs
  have hmo := Ml_length odd
  have hsm : ∀ q : Que, q.same q = true := fun q => by rw [Que.same, (sameL_iff _ _).2 rfl]; simp
  have hss : ∀ q : Que, M 11 [q.V, q.V] (.bool true) := fun q => by have := qsame_ok q q; rw [hsm] at this; exact this
  have hpk := pick_range (c := how) (n := 3) (by omega)
  have hpn := pick_range (c := number) (n := 20) (by omega)
  refine gb3 [(98, 1), (84, 1), (87, 1)] [] rfl rfl fun hb => ?_
  refine ⟨_, awake_ok, ?_⟩
  refine ⟨fun h => ⟨⟨L.le_refl _, trivial⟩, trivial, rfl, rfl⟩, fun h => ?_⟩
  have hodd : odd.length ≤ 10 := by
    revert h
    rw [hmo]
    by_cases h1 : (m.data.size : Int) > 100 <;> simp [h1] <;> omega
  obtain ⟨n0, e0, hN, hN'⟩ : ∃ (n0 e0 : Int), M 9 [.int number] (.tup [Que.N ⟨n0, []⟩, .int e0]) ∧ M 10 [.int number] (.tup [Que.N ⟨n0, []⟩, .int e0]) := by
    have h1 := new_ok number
    have h2 := newRef_ok number
    cases hm : mayB number with
    | true => rw [hm] at h1 h2; exact ⟨number, 0, h1, h2⟩
    | false => rw [hm] at h1 h2; exact ⟨0, 1, h1, h2⟩
  refine ⟨_, hN, ?_⟩
  refine ⟨_, hN', ?_⟩
  refine ⟨_, toN (toN2 (hss ⟨n0, []⟩)), ?_⟩
  refine ⟨fun h => absurd h (by simp), fun _ => ?_⟩
  refine ⟨_, hqu, ?_⟩
  apply cut
  · intro key
    by_cases hq0 : q.msgs = []
    · refine ⟨_, ownRef_nil' q hq0, ?_⟩
      refine ⟨_, pick13_ok how 3 hh (by omega), ?_⟩
      refine ⟨fun h1 => ?_, fun h1 => ?_⟩
      · exact ⟨Que × Nat, (fun p : Que × Nat => (⟨[(6, .int number), (9, .ref 999999 0), (10, .ref 999998 0), (15, .bool true), (102, .d (.l (.sl 2 [q.NL, p.1.NL]))), (103, .int 2), (104, .int p.2)], ⟨[(999999, .cells [.int r.a, .int r.b, .int r.c, .int r.d, .int r.e, .int r.f]), (999998, .cells m.C)], [], 800000, 0⟩⟩ : ASt)), (fun p : Que × Nat => p.1.msgs.length ≤ 50 ∧ p.2 ≤ 2), (fun p : Que × Nat => 2 - p.2), (⟨number, []⟩, 0), ⟨by simp, Nat.zero_le _⟩, ⟨⟨L.le_refl _, ⟨rfl, rfl⟩, ⟨rfl, rfl⟩, L.le_refl _, L.le_of_eq (congrArg (fun x => L.sl 2 [q.NL, [L.int (Que.lim ⟨number, []⟩), x]]) rfl), L.le_refl _, L.le_refl _, trivial⟩, ⟨⟨L.le_refl _, L.le_refl _, L.le_refl _, L.le_refl _, L.le_refl _, L.le_refl _, trivial⟩, ⟨L.le_refl _, L.le_refl _, L.le_refl _, L.le_refl _, L.le_refl _, L.le_refl _, L.le_refl _, trivial⟩, trivial⟩, rfl, rfl⟩, key.of⟩
      refine ⟨fun h2 => ?_, fun h2 => ?_⟩
      · by_cases ho0 : odd = []
        · refine .inl ⟨by rw [ho0]; rfl, ?_⟩
          exact ⟨Que × Nat, (fun p : Que × Nat => (⟨[(6, .int number), (9, .ref 999999 0), (10, .ref 999998 0), (15, .bool true), (102, .d (.l (.sl 2 [q.NL, p.1.NL]))), (103, .int 2), (104, .int p.2)], ⟨[(999999, .cells [.int r.a, .int r.b, .int r.c, .int r.d, .int r.e, .int r.f]), (999998, .cells m.C)], [], 800000, 0⟩⟩ : ASt)), (fun p : Que × Nat => p.1.msgs.length ≤ 50 ∧ p.2 ≤ 2), (fun p : Que × Nat => 2 - p.2), (⟨q.lim, []⟩, 0), ⟨by simp, Nat.zero_le _⟩, ⟨⟨L.le_refl _, ⟨rfl, rfl⟩, ⟨rfl, rfl⟩, L.le_refl _, L.le_of_eq (congrArg (fun x => L.sl 2 [q.NL, [L.int (Que.lim ⟨q.lim, []⟩), x]]) rfl), L.le_refl _, L.le_refl _, trivial⟩, ⟨⟨L.le_refl _, L.le_refl _, L.le_refl _, L.le_refl _, L.le_refl _, L.le_refl _, trivial⟩, ⟨L.le_refl _, L.le_refl _, L.le_refl _, L.le_refl _, L.le_refl _, L.le_refl _, L.le_refl _, trivial⟩, trivial⟩, rfl, rfl⟩, key.of⟩
        · refine .inr ⟨by rw [hmo]; simp only [List.length_nil]; show (0 + odd.length) * 64 ≤ _; omega, ?_⟩
          exact ⟨Que × Nat, (fun p : Que × Nat => (⟨[(6, .int number), (9, .ref 999999 0), (10, .ref 999998 0), (15, .bool true), (102, .d (.l (.sl 2 [q.NL, p.1.NL]))), (103, .int 2), (104, .int p.2)], ⟨[(999999, .cells [.int r.a, .int r.b, .int r.c, .int r.d, .int r.e, .int r.f]), (999998, .cells m.C)], [], 800000, 0⟩⟩ : ASt)), (fun p : Que × Nat => p.1.msgs.length ≤ 50 ∧ p.2 ≤ 2), (fun p : Que × Nat => 2 - p.2), (⟨q.lim, odd⟩, 0), ⟨by show odd.length ≤ _; omega, Nat.zero_le _⟩, ⟨⟨L.le_refl _, ⟨rfl, rfl⟩, ⟨rfl, rfl⟩, L.le_refl _, L.le_of_eq (congrArg (fun x => L.sl 2 [q.NL, [L.int (Que.lim ⟨q.lim, odd⟩), x]]) (ml_eq (q := ⟨q.lim, odd⟩) ho0).symm), L.le_refl _, L.le_refl _, trivial⟩, ⟨⟨L.le_refl _, L.le_refl _, L.le_refl _, L.le_refl _, L.le_refl _, L.le_refl _, trivial⟩, ⟨L.le_refl _, L.le_refl _, L.le_refl _, L.le_refl _, L.le_refl _, L.le_refl _, L.le_refl _, trivial⟩, trivial⟩, rfl, rfl⟩, key.of⟩
      · by_cases ho0 : odd = []
        · refine .inl ⟨by rw [ho0]; rfl, ?_⟩
          refine .inl ⟨rfl, ?_⟩
          refine ⟨rfl, ?_⟩
          exact ⟨Que × Nat, (fun p : Que × Nat => (⟨[(6, .int number), (9, .ref 999999 0), (10, .ref 999998 0), (15, .bool true), (102, .d (.l (.sl 2 [q.NL, p.1.NL]))), (103, .int 2), (104, .int p.2)], ⟨[(999999, .cells [.int r.a, .int r.b, .int r.c, .int r.d, .int r.e, .int r.f]), (999998, .cells m.C)], [], 800000, 0⟩⟩ : ASt)), (fun p : Que × Nat => p.1.msgs.length ≤ 50 ∧ p.2 ≤ 2), (fun p : Que × Nat => 2 - p.2), (⟨q.lim, []⟩, 0), ⟨by simp, Nat.zero_le _⟩, ⟨⟨L.le_refl _, ⟨rfl, rfl⟩, ⟨rfl, rfl⟩, L.le_refl _, L.le_of_eq (congrArg (fun x => L.sl 2 [q.NL, [L.int (Que.lim ⟨q.lim, []⟩), x]]) rfl), L.le_refl _, L.le_refl _, trivial⟩, ⟨⟨L.le_refl _, L.le_refl _, L.le_refl _, L.le_refl _, L.le_refl _, L.le_refl _, trivial⟩, ⟨L.le_refl _, L.le_refl _, L.le_refl _, L.le_refl _, L.le_refl _, L.le_refl _, L.le_refl _, trivial⟩, trivial⟩, rfl, rfl⟩, key.of⟩
        · refine .inr ⟨by rw [hmo]; simp only [List.length_nil]; show (0 + odd.length) * 64 ≤ _; omega, ?_⟩
          refine ⟨by rw [List.nil_append, hmo]; simp only [List.length_nil]; show (odd.length + 0) * 64 ≤ _; omega, ?_⟩
          refine ⟨rfl, ?_⟩
          exact ⟨Que × Nat, (fun p : Que × Nat => (⟨[(6, .int number), (9, .ref 999999 0), (10, .ref 999998 0), (15, .bool true), (102, .d (.l (.sl 2 [q.NL, p.1.NL]))), (103, .int 2), (104, .int p.2)], ⟨[(999999, .cells [.int r.a, .int r.b, .int r.c, .int r.d, .int r.e, .int r.f]), (999998, .cells m.C)], [], 800000, 0⟩⟩ : ASt)), (fun p : Que × Nat => p.1.msgs.length ≤ 50 ∧ p.2 ≤ 2), (fun p : Que × Nat => 2 - p.2), (⟨q.lim, odd⟩, 0), ⟨by show odd.length ≤ _; omega, Nat.zero_le _⟩, ⟨⟨L.le_refl _, ⟨rfl, rfl⟩, ⟨rfl, rfl⟩, L.le_refl _, L.le_of_eq (congrArg (fun x => L.sl 2 [q.NL, [L.int (Que.lim ⟨q.lim, odd⟩), x]]) (show L.sl 7 (([] : List (List L)) ++ Ml odd ++ []) = Que.ml ⟨q.lim, odd⟩ by rw [List.nil_append, List.append_nil]; exact (ml_eq (q := ⟨q.lim, odd⟩) ho0).symm)), L.le_refl _, L.le_refl _, trivial⟩, ⟨⟨L.le_refl _, L.le_refl _, L.le_refl _, L.le_refl _, L.le_refl _, L.le_refl _, trivial⟩, ⟨L.le_refl _, L.le_refl _, L.le_refl _, L.le_refl _, L.le_refl _, L.le_refl _, L.le_refl _, trivial⟩, trivial⟩, rfl, rfl⟩, key.of⟩
    · refine ⟨_, ownRef_tok q (by omega), ?_⟩
      refine ⟨_, pick13_ok how 3 hh (by omega), ?_⟩
      refine ⟨fun h1 => ?_, fun h1 => ?_⟩
      · exact ⟨Que × Nat, (fun p : Que × Nat => (⟨[(6, .int number), (9, .ref 999999 0), (10, .ref 999998 0), (15, .bool true), (102, .d (.l (.sl 2 [q.NL, p.1.NL]))), (103, .int 2), (104, .int p.2)], ⟨[(999999, .cells [.int r.a, .int r.b, .int r.c, .int r.d, .int r.e, .int r.f]), (999998, .cells m.C)], [], 800000, 0⟩⟩ : ASt)), (fun p : Que × Nat => p.1.msgs.length ≤ 50 ∧ p.2 ≤ 2), (fun p : Que × Nat => 2 - p.2), (⟨number, q.msgs⟩, 0), ⟨by show q.msgs.length ≤ _; omega, Nat.zero_le _⟩, ⟨⟨L.le_refl _, ⟨rfl, rfl⟩, ⟨rfl, rfl⟩, L.le_refl _, L.le_of_eq (congrArg (fun x => L.sl 2 [q.NL, [L.int (Que.lim ⟨number, q.msgs⟩), x]]) (ml_eq (q := ⟨number, q.msgs⟩) hq0).symm), L.le_refl _, L.le_refl _, trivial⟩, ⟨⟨L.le_refl _, L.le_refl _, L.le_refl _, L.le_refl _, L.le_refl _, L.le_refl _, trivial⟩, ⟨L.le_refl _, L.le_refl _, L.le_refl _, L.le_refl _, L.le_refl _, L.le_refl _, L.le_refl _, trivial⟩, trivial⟩, rfl, rfl⟩, key.of⟩
      refine ⟨fun h2 => ?_, fun h2 => ?_⟩
      · refine ⟨by rw [hml, hmo]; show (q.msgs.length + odd.length) * 64 ≤ _; omega, ?_⟩
        exact ⟨Que × Nat, (fun p : Que × Nat => (⟨[(6, .int number), (9, .ref 999999 0), (10, .ref 999998 0), (15, .bool true), (102, .d (.l (.sl 2 [q.NL, p.1.NL]))), (103, .int 2), (104, .int p.2)], ⟨[(999999, .cells [.int r.a, .int r.b, .int r.c, .int r.d, .int r.e, .int r.f]), (999998, .cells m.C)], [], 800000, 0⟩⟩ : ASt)), (fun p : Que × Nat => p.1.msgs.length ≤ 50 ∧ p.2 ≤ 2), (fun p : Que × Nat => 2 - p.2), (⟨q.lim, q.msgs ++ odd⟩, 0), ⟨by show (q.msgs ++ odd).length ≤ _; rw [List.length_append]; omega, Nat.zero_le _⟩, ⟨⟨L.le_refl _, ⟨rfl, rfl⟩, ⟨rfl, rfl⟩, L.le_refl _, L.le_of_eq (congrArg (fun x => L.sl 2 [q.NL, [L.int (Que.lim ⟨q.lim, q.msgs ++ odd⟩), x]]) (show L.sl 7 (Ml q.msgs ++ Ml odd) = Que.ml ⟨q.lim, q.msgs ++ odd⟩ by rw [ml_eq (q := ⟨q.lim, q.msgs ++ odd⟩) (by show q.msgs ++ odd ≠ []; simp [hq0])]; simp [Ml])), L.le_refl _, L.le_refl _, trivial⟩, ⟨⟨L.le_refl _, L.le_refl _, L.le_refl _, L.le_refl _, L.le_refl _, L.le_refl _, trivial⟩, ⟨L.le_refl _, L.le_refl _, L.le_refl _, L.le_refl _, L.le_refl _, L.le_refl _, L.le_refl _, trivial⟩, trivial⟩, rfl, rfl⟩, key.of⟩
      · by_cases ho0 : odd = []
        · refine .inl ⟨by rw [ho0]; rfl, ?_⟩
          refine .inr ⟨by rw [hml]; simp only [List.length_nil]; show (0 + q.msgs.length) * 64 ≤ _; omega, ?_⟩
          refine ⟨rfl, ?_⟩
          exact ⟨Que × Nat, (fun p : Que × Nat => (⟨[(6, .int number), (9, .ref 999999 0), (10, .ref 999998 0), (15, .bool true), (102, .d (.l (.sl 2 [q.NL, p.1.NL]))), (103, .int 2), (104, .int p.2)], ⟨[(999999, .cells [.int r.a, .int r.b, .int r.c, .int r.d, .int r.e, .int r.f]), (999998, .cells m.C)], [], 800000, 0⟩⟩ : ASt)), (fun p : Que × Nat => p.1.msgs.length ≤ 50 ∧ p.2 ≤ 2), (fun p : Que × Nat => 2 - p.2), (⟨q.lim, q.msgs⟩, 0), ⟨by show q.msgs.length ≤ _; omega, Nat.zero_le _⟩, ⟨⟨L.le_refl _, ⟨rfl, rfl⟩, ⟨rfl, rfl⟩, L.le_refl _, L.le_of_eq (congrArg (fun x => L.sl 2 [q.NL, [L.int (Que.lim ⟨q.lim, q.msgs⟩), x]]) (ml_eq (q := ⟨q.lim, q.msgs⟩) hq0).symm), L.le_refl _, L.le_refl _, trivial⟩, ⟨⟨L.le_refl _, L.le_refl _, L.le_refl _, L.le_refl _, L.le_refl _, L.le_refl _, trivial⟩, ⟨L.le_refl _, L.le_refl _, L.le_refl _, L.le_refl _, L.le_refl _, L.le_refl _, L.le_refl _, trivial⟩, trivial⟩, rfl, rfl⟩, key.of⟩
        · refine .inr ⟨by rw [hmo]; simp only [List.length_nil]; show (0 + odd.length) * 64 ≤ _; omega, ?_⟩
          refine ⟨by rw [List.nil_append, hmo, hml]; show (odd.length + q.msgs.length) * 64 ≤ _; omega, ?_⟩
          refine ⟨rfl, ?_⟩
          exact ⟨Que × Nat, (fun p : Que × Nat => (⟨[(6, .int number), (9, .ref 999999 0), (10, .ref 999998 0), (15, .bool true), (102, .d (.l (.sl 2 [q.NL, p.1.NL]))), (103, .int 2), (104, .int p.2)], ⟨[(999999, .cells [.int r.a, .int r.b, .int r.c, .int r.d, .int r.e, .int r.f]), (999998, .cells m.C)], [], 800000, 0⟩⟩ : ASt)), (fun p : Que × Nat => p.1.msgs.length ≤ 50 ∧ p.2 ≤ 2), (fun p : Que × Nat => 2 - p.2), (⟨q.lim, odd ++ q.msgs⟩, 0), ⟨by show (odd ++ q.msgs).length ≤ _; rw [List.length_append]; omega, Nat.zero_le _⟩, ⟨⟨L.le_refl _, ⟨rfl, rfl⟩, ⟨rfl, rfl⟩, L.le_refl _, L.le_of_eq (congrArg (fun x => L.sl 2 [q.NL, [L.int (Que.lim ⟨q.lim, odd ++ q.msgs⟩), x]]) (show L.sl 7 (([] : List (List L)) ++ Ml odd ++ Ml q.msgs) = Que.ml ⟨q.lim, odd ++ q.msgs⟩ by rw [ml_eq (q := ⟨q.lim, odd ++ q.msgs⟩) (by show odd ++ q.msgs ≠ []; simp [ho0])]; simp [Ml])), L.le_refl _, L.le_refl _, trivial⟩, ⟨⟨L.le_refl _, L.le_refl _, L.le_refl _, L.le_refl _, L.le_refl _, L.le_refl _, trivial⟩, ⟨L.le_refl _, L.le_refl _, L.le_refl _, L.le_refl _, L.le_refl _, L.le_refl _, L.le_refl _, trivial⟩, trivial⟩, rfl, rfl⟩, key.of⟩
  · rintro ⟨z, k⟩ ⟨hz, hk⟩ _
    have hz : z.msgs.length ≤ 50 := hz
    have hk : k ≤ 2 := hk
    refine ⟨fun hc => ?_, fun hc => ?_⟩
    · have hlt : k < 2 := by
        have : (k : Int) < 2 := by simpa using hc
        omega
      have wk : IntKind.i64.wrap ((k : Int) + 1) = ((k + 1 : Nat) : Int) := by rw [wrap64 (by omega) (by omega)]; omega
      obtain ⟨x, hx⟩ : ∃ x : Que, x = if k = 0 then q else z := ⟨_, rfl⟩
      have hxl : x.msgs.length ≤ 50 := by rw [hx]; split <;> omega
      have hget : [q.NL, z.NL][k]? = some x.NL := by
        match k, hlt with
        | 0, _ => rw [hx]; rfl
        | 1, _ => rw [hx]; rfl
      refine ⟨x.NL, ⟨k, rfl, hget⟩, ?_⟩
      obtain ⟨fm, fb, hF⟩ := firstR_tup x
      have hf1 := toN (first_ok x (by omega))
      have hf2 := toN (firstRef_ok x (by omega))
      rw [hF] at hf1 hf2
      obtain ⟨ta, tm', tc, hT⟩ : ∃ a b c, takenT x (fun _ => true) = (a, b, c) := ⟨_, _, _, rfl⟩
      have ht1 := toN (take_ok x (by omega))
      have ht2 := toN (takeRef_ok x (by omega))
      rw [takenR, hT] at ht1 ht2
      refine ⟨_, hf1, ?_⟩
      refine ⟨_, hf2, ?_⟩
      refine ⟨_, ht1, ?_⟩
      refine ⟨_, ht2, ?_⟩
      refine ⟨_, fun _ => hss ta, ?_⟩
      refine ⟨_, fun _ => toN (qright_ok x (by omega)), ?_⟩
      refine ⟨_, fun _ => toN (rightRef_ok x (by omega)), ?_⟩
      refine ⟨rfl, ?_⟩
      refine ⟨fun h2 => ?_, fun _ => ?_⟩
      · exfalso
        revert h2
        simp [eqCells, eqC]
      refine ⟨_, pick13_ok number 20 hn (by omega), ?_⟩
      refine ⟨_, numd_ok r hr6 _, ?_⟩
      refine ⟨_, numd_ok r hr6 100, ?_⟩
      refine ⟨rfl, ?_⟩
      obtain ⟨y1, hy1⟩ : ∃ y1, y1 = numd r (IntKind.i64.wrap (1 + pick number 20)) := ⟨_, rfl⟩
      obtain ⟨y2, hy2⟩ : ∃ y2, y2 = numd r 100 := ⟨_, rfl⟩
      refine ⟨Nat, fun j => ⟨[(6, .int number), (9, .ref 999999 0), (10, .ref 999998 0), (15, .bool true), (23, .ref 799999 0), (102, .d (.l (.sl 2 [q.NL, z.NL]))), (103, .int 2), (104, .int k), (169, .d (.l (.sl 7 [m.L, y1.L, y2.L]))), (170, .int 3), (171, .int j)],
        ⟨[(999999, .cells [.int r.a, .int r.b, .int r.c, .int r.d, .int r.e, .int r.f]), (999998, .cells m.C), (799999, .cells [.int x.lim, .d (.l x.ml)])], [], 700000, 0⟩⟩, fun j => j ≤ 3, fun j => 3 - j, 0, Nat.zero_le _, ?_, ?_⟩
      · exact ⟨⟨L.le_refl _, ⟨rfl, rfl⟩, ⟨rfl, rfl⟩, L.le_refl _, ⟨rfl, rfl⟩, L.le_refl _, L.le_refl _, L.le_refl _, L.le_of_eq (by rw [hy1, hy2]; rfl), L.le_refl _, L.le_refl _, trivial⟩, ⟨⟨L.le_refl _, L.le_refl _, L.le_refl _, L.le_refl _, L.le_refl _, L.le_refl _, trivial⟩, ⟨L.le_refl _, L.le_refl _, L.le_refl _, L.le_refl _, L.le_refl _, L.le_refl _, L.le_refl _, trivial⟩, ⟨L.le_refl _, L.le_refl _, trivial⟩, trivial⟩, rfl, rfl⟩
      · rintro j hj _
        have hj : j ≤ 3 := hj
        refine ⟨fun hc2 => ?_, fun hc2 => ?_⟩
        · have hj3 : j < 3 := by
            have : (j : Int) < 3 := by simpa using hc2
            omega
          have wj : IntKind.i64.wrap ((j : Int) + 1) = ((j + 1 : Nat) : Int) := by rw [wrap64 (by omega) (by omega)]; omega
          obtain ⟨y, hy⟩ : ∃ y : Msg, [m.L, y1.L, y2.L][j]? = some y.L := by
            match j, hj3 with
            | 0, _ => exact ⟨m, rfl⟩
            | 1, _ => exact ⟨y1, rfl⟩
            | 2, _ => exact ⟨y2, rfl⟩
          refine ⟨y.L, ⟨j, rfl, hy⟩, ?_⟩
          obtain ⟨pq, pe, hP⟩ : ∃ pq pe, putR x y = (pq, pe) := ⟨_, _, rfl⟩
          have hp1 := putA_ok x y (by omega)
          have hp2 := toN (putRef_ok x y (by omega))
          rw [hP] at hp1 hp2
          obtain ⟨aa, am, ac, hA⟩ : ∃ a b c, takenT x (fun m => m.number == y.number) = (a, b, c) := ⟨_, _, _, rfl⟩
          have ha1 := toN (abort_ok x y.number (by omega))
          have ha2 := toN (abortRef_ok x y.number (by omega))
          rw [takenR, hA] at ha1 ha2
          refine ⟨_, hp1, ?_⟩
          refine ⟨_, hp2, ?_⟩
          refine ⟨_, hss pq, ?_⟩
          refine ⟨fun h3 => absurd h3 (by simp), fun _ => ?_⟩
          refine ⟨_, ha1, ?_⟩
          refine ⟨_, ha2, ?_⟩
          refine ⟨_, hss aa, ?_⟩
          refine ⟨fun h3 => ?_, fun _ => ?_⟩
          · exfalso
            revert h3
            simp [eqCells, eqC]
          refine ⟨j + 1, hj3, by show 3 - (j + 1) < 3 - j; omega, ?_⟩
          exact ⟨⟨L.le_refl _, ⟨rfl, rfl⟩, ⟨rfl, rfl⟩, L.le_refl _, ⟨rfl, rfl⟩, L.le_refl _, L.le_refl _, L.le_refl _, L.le_refl _, L.le_refl _, L.le_of_eq (by rw [wj]), trivial⟩, ⟨⟨L.le_refl _, L.le_refl _, L.le_refl _, L.le_refl _, L.le_refl _, L.le_refl _, trivial⟩, ⟨L.le_refl _, L.le_refl _, L.le_refl _, L.le_refl _, L.le_refl _, L.le_refl _, L.le_refl _, trivial⟩, ⟨L.le_refl _, L.le_refl _, trivial⟩, trivial⟩, rfl, rfl⟩
        · refine ⟨(z, k + 1), ⟨hz, hlt⟩, by show 2 - (k + 1) < 2 - k; omega, ?_⟩
          exact ⟨⟨L.le_refl _, ⟨rfl, rfl⟩, ⟨rfl, rfl⟩, L.le_refl _, L.le_refl _, L.le_refl _, L.le_of_eq (by rw [wk]), trivial⟩, ⟨⟨L.le_refl _, L.le_refl _, L.le_refl _, L.le_refl _, L.le_refl _, L.le_refl _, trivial⟩, ⟨L.le_refl _, L.le_refl _, L.le_refl _, L.le_refl _, L.le_refl _, L.le_refl _, L.le_refl _, trivial⟩, trivial⟩, rfl, rfl⟩
    · exact ⟨⟨L.le_refl _, trivial⟩, trivial, rfl, rfl⟩
end Go.Proofs.YthcbdpghfefnlaaDoor
