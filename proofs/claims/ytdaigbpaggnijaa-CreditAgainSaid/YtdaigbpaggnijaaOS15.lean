/-
  Layer 15: what the functions compute.
-/
import Derived.Test.YtdaigbpaggnijaaOG15
set_option linter.unusedVariables false
set_option linter.unusedSimpArgs false
namespace Go.Proofs.Ytdaigbpaggnijaa
open Go Go.Proofs.Ytdaigbpaggnijaa.Abs

def Il (l : List Int) : List (List L) := l.map fun x => [.int x]
abbrev Ds (l : List Int) : V := .d (.sl 1 (Il l))
theorem Il_length (l : List Int) : (Il l).length = l.length := by simp [Il]
theorem Il_get (l : List Int) (k : Nat) : (Il l)[k]? = (l[k]?).map fun x => [.int x] := by simp [Il]

def number (n : Int) : Bool := decide (1 ≤ n) && decide (n ≤ 65535)
theorem number_ok (n : Int) : M 26 [.int n] (.bool (number n)) := by
  refine go26 rfl rfl fun hb => ?_
  refine ⟨⟨L.le_of_eq ?_, trivial⟩, trivial, rfl, rfl⟩
  by_cases h : 1 ≤ n <;> simp [h, number]

def idx (l : List Int) (n : Int) : Int := if n ∈ l then (l.idxOf n : Int) else -1
theorem wrap64 {x : Int} (h1 : -9223372036854775808 ≤ x) (h2 : x < 9223372036854775808) : IntKind.i64.wrap x = x := by
  simp [IntKind.wrap, IntKind.signed, IntKind.bits]
  omega
theorem idx_at {l : List Int} {n : Int} {k : Nat} (hlt : k < l.length) (hn : l[k] = n) (hno : ∀ j, j < k → l[j]? ≠ some n) : idx l n = k := by
  have hm : n ∈ l := hn ▸ List.getElem_mem hlt
  rw [idx, if_pos hm]
  have h1 : l.idxOf n < l.length := List.idxOf_lt_length_iff.2 hm
  have h2 : l[l.idxOf n] = n := List.getElem_idxOf h1
  have h3 : ¬ l.idxOf n < k := fun h => hno _ h (by rw [List.getElem?_eq_getElem h1, h2])
  have h4 : ¬ k < l.idxOf n := fun h => by
    have := List.not_of_lt_findIdx (p := (· == n)) (xs := l) (i := k) h
    simp [hn] at this
  omega
theorem index_ok (l : List Int) (n : Int) : M 32 [Ds l, .int n] (.int (idx l n)) := by
  refine go32 rfl rfl fun hb => ?_
  have hlen : l.length ≤ 9223372036854775807 := by have := (hb.1 0 _ rfl).1; simpa [Il_length] using this
  refine ⟨Nat, fun k => ⟨[(0, Ds l), (1, .int n), (7, .int l.length), (8, .int k)], ⟨[], [], 100, 0⟩⟩, fun k => k ≤ l.length ∧ ∀ j, j < k → l[j]? ≠ some n, fun k => l.length - k, 0, ?_, ?_, ?_⟩
  · exact ⟨Nat.zero_le _, fun j h => absurd h (Nat.not_lt_zero j)⟩
  · refine ⟨⟨L.le_refl _, L.le_refl _, L.le_of_eq (by simp [Il_length]), L.le_refl _, trivial⟩, trivial, rfl, rfl⟩
  · rintro k ⟨hk, hno⟩ _
    refine ⟨fun h => ?_, fun h => ?_⟩
    · have hlt : k < l.length := by simpa using h
      refine ⟨[.int l[k]], ⟨k, rfl, by simp [Il_get, hlt]⟩, ?_⟩
      refine ⟨fun h => ?_, fun h => ?_⟩
      · refine ⟨⟨L.le_of_eq ?_, trivial⟩, trivial, rfl, rfl⟩
        have hn : n = l[k] := by simpa using h
        rw [idx_at hlt hn.symm (fun j hj => hno j hj)]
      · have hn : ¬ n = l[k] := by simpa using h
        refine ⟨k + 1, ⟨hlt, ?_⟩, ?_, ?_⟩
        · intro j hj
          by_cases e : j = k
          · subst e; simp [hlt]; exact fun e => hn e.symm
          · exact hno j (by omega)
        · show l.length - (k + 1) < l.length - k
          omega
        · refine ⟨⟨L.le_refl _, L.le_refl _, L.le_refl _, L.le_of_eq ?_, trivial⟩, trivial, rfl, rfl⟩
          rw [wrap64 (by omega) (by omega)]; simp
    · refine ⟨⟨L.le_of_eq ?_, trivial⟩, trivial, rfl, rfl⟩
      have hge : l.length ≤ k := by have : ¬ ((k : Int) < l.length) := by simpa using h
                                    omega
      rw [idx, if_neg]
      intro hm
      obtain ⟨i, hi, rfl⟩ := List.getElem_of_mem hm
      exact hno i (by omega) (List.getElem?_eq_getElem hi)

theorem contains_ok (l : List Int) (n : Int) : M 27 [Ds l, .int n] (.bool (decide (n ∈ l))) := by
  refine go27 rfl rfl fun hb => ?_
  refine ⟨_, index_ok l n, ?_⟩
  refine ⟨⟨L.le_of_eq ?_, trivial⟩, trivial, rfl, rfl⟩
  by_cases h : n ∈ l <;> simp [idx, h]

abbrev Dc (w : Int) (l : List Int) : V := .d (.agg [.int w, .sl 1 (Il l)])

def fits : List Int → List Int → Bool
  | _, [] => true
  | done, n :: l => number n && !decide (n ∈ done) && fits (done ++ [n]) l
def right (w : Int) (l : List Int) : Bool := fits [] l && (decide (1 ≤ w) && decide (w ≤ 16) && decide ((l.length : Int) ≤ w))

theorem fits_drop (l : List Int) (k : Nat) (h : k < l.length) : fits (l.take k) (l.drop k) = (number l[k] && !decide (l[k] ∈ l.take k) && fits (l.take (k + 1)) (l.drop (k + 1))) := by
  rw [List.drop_eq_getElem_cons h, fits, List.take_succ_eq_append_getElem h]

theorem right_ok (w : Int) (l : List Int) : M 15 [Dc w l] (.bool (right w l)) := by
  refine go15 rfl rfl fun hb => ?_
  have hlen : l.length ≤ 9223372036854775807 := by have := (hb.1 0 _ rfl).2.1.1; simpa [Il_length] using this
  refine ⟨Nat, fun k => ⟨[(1, .ref 999999 0), (6, Ds l), (7, .int l.length), (8, .int k)], ⟨[(999999, .cells [.int w, Ds l])], [], 999999, 0⟩⟩, fun k => k ≤ l.length ∧ fits [] l = fits (l.take k) (l.drop k), fun k => l.length - k, 0, ?_, ?_, ?_⟩
  · exact ⟨Nat.zero_le _, by simp⟩
  · exact ⟨⟨⟨rfl, rfl⟩, L.le_refl _, L.le_of_eq (by simp [Il_length]), L.le_refl _, trivial⟩, ⟨⟨L.le_refl _, L.le_refl _, trivial⟩, trivial⟩, rfl, rfl⟩
  · rintro k ⟨hk, hfit⟩ _
    refine ⟨fun h => ?_, fun h => ?_⟩
    · have hlt : k < l.length := by simpa using h
      refine ⟨[.int l[k]], ⟨k, rfl, by simp [Il_get, hlt]⟩, ?_⟩
      refine ⟨_, number_ok l[k], ?_⟩
      refine ⟨k, fun _ => ⟨rfl, rfl, by rw [Il_length]; omega⟩, ?_⟩
      refine ⟨_, fun _ => by rw [Il, ← List.map_take]; exact contains_ok (l.take k) l[k], ?_⟩
      rw [fits_drop l k hlt] at hfit
      refine ⟨fun h => ?_, fun h => ?_⟩
      · refine ⟨⟨L.le_of_eq ?_, trivial⟩, trivial, rfl, rfl⟩
        rw [right, hfit]
        cases h1 : number l[k] <;> cases h2 : decide (l[k] ∈ List.take k l) <;> simp [h1, h2] at h ⊢
      · refine ⟨k + 1, ⟨hlt, ?_⟩, ?_, ?_⟩
        · rw [hfit]
          cases h1 : number l[k] <;> cases h2 : decide (l[k] ∈ List.take k l) <;> simp [h1, h2] at h ⊢
        · show l.length - (k + 1) < l.length - k
          omega
        · exact ⟨⟨⟨rfl, rfl⟩, L.le_refl _, L.le_refl _, L.le_of_eq (by rw [wrap64 (by omega) (by omega)]; simp), trivial⟩, ⟨⟨L.le_refl _, L.le_refl _, trivial⟩, trivial⟩, rfl, rfl⟩
    · have hge : k = l.length := by have : ¬ ((k : Int) < l.length) := by simpa using h
                                    omega
      subst hge
      rw [List.drop_length] at hfit
      refine ⟨⟨L.le_of_eq ?_, trivial⟩, trivial, rfl, rfl⟩
      rw [right, hfit, Il_length]
      by_cases h1 : 1 ≤ w <;> by_cases h2 : w ≤ 16 <;> simp [fits, h1, h2]

abbrev Sm (l : List Int) : Prop := l.length ≤ 1000000000
theorem clone_ok (l : List Int) (hl : Sm l) : M 31 [Ds l] (.own 0 1 (Il l)) := by
  refine go31 rfl rfl fun hb => ?_
  refine ⟨fun h => ?_, fun _ => ⟨?_, ?_⟩⟩
  · exact ⟨⟨h, trivial⟩, trivial, rfl, rfl⟩
  · show (0 + (Il l).length) * 8 ≤ _
    rw [Il_length]; omega
  · exact ⟨⟨⟨rfl, L.le_refl _⟩, trivial⟩, trivial, rfl, rfl⟩

theorem right_bounds {w : Int} {l : List Int} (hr : right w l = true) : 1 ≤ w ∧ w ≤ 16 ∧ (l.length : Int) ≤ w := by
  simp only [right, Bool.and_eq_true, decide_eq_true_eq] at hr
  exact ⟨hr.2.1.1, hr.2.1.2, hr.2.2⟩

def left (w : Int) (l : List Int) : Int := if right w l then w - l.length else 0
theorem left_ok (w : Int) (l : List Int) : M 17 [Dc w l] (.int (left w l)) := by
  refine go17 rfl rfl fun hb => ?_
  refine ⟨_, right_ok w l, ?_⟩
  refine ⟨fun h => ?_, fun h => ?_⟩
  · refine ⟨⟨L.le_of_eq ?_, trivial⟩, trivial, rfl, rfl⟩
    have : right w l = false := by simpa using h
    simp [this, left]
  · have hr : right w l = true := by simpa using h
    have hw := right_bounds hr
    refine ⟨⟨L.le_of_eq ?_, trivial⟩, trivial, rfl, rfl⟩
    rw [Il_length, wrap64 (by omega) (by omega), left, hr]; simp

theorem own_ok (w : Int) (l : List Int) (hl : Sm l) : M 29 [Dc w l] (.agg [.int w, .own 0 1 (Il l)]) := by
  refine go29 rfl rfl fun hb => ?_
  refine ⟨_, clone_ok l hl, ?_⟩
  exact ⟨⟨⟨L.le_refl _, ⟨rfl, L.le_refl _⟩, trivial⟩, trivial⟩, trivial, rfl, rfl⟩

def takes (w : Int) (l : List Int) (n : Int) : Bool := right w l && number n && !decide (n ∈ l) && !decide (left w l = 0)
def takeE (w : Int) (l : List Int) (n : Int) : Int := if right w l && number n then (if n ∈ l then 42 else if left w l = 0 then 40 else 0) else 1
theorem take_ok (w : Int) (l : List Int) (n : Int) (hl : Sm l) : M 19 [Dc w l, .int n] (.tup [.agg [.int w, .own 0 1 (Il (if takes w l n then l ++ [n] else l))], .int (takeE w l n)]) := by
  refine go19 rfl rfl fun hb => ?_
  refine ⟨_, right_ok w l, ?_⟩
  refine ⟨fun h => ?_, fun h => ?_⟩
  · have hr : right w l = false := by simpa using h
    refine ⟨fun _ => ?_, fun h' => ?_⟩
    · refine ⟨_, own_ok w l hl, ?_⟩
      refine ⟨⟨⟨⟨L.le_refl _, ⟨rfl, L.le_of_eq ?_⟩, trivial⟩, L.le_of_eq ?_, trivial⟩, trivial⟩, trivial, rfl, rfl⟩
      · simp [takes, hr]
      · simp [takeE, hr]
    · rw [hr] at h'; simp at h'
  · have hr : right w l = true := by simpa using h
    refine ⟨_, number_ok n, ?_⟩
    refine ⟨fun h1 => ?_, fun h1 => ?_⟩
    · have hn : number n = false := by simpa using h1
      refine ⟨_, own_ok w l hl, ?_⟩
      refine ⟨⟨⟨⟨L.le_refl _, ⟨rfl, L.le_of_eq ?_⟩, trivial⟩, L.le_of_eq ?_, trivial⟩, trivial⟩, trivial, rfl, rfl⟩
      · simp [takes, hn]
      · simp [takeE, hn]
    · have hn : number n = true := by simpa using h1
      refine ⟨_, contains_ok l n, ?_⟩
      refine ⟨fun h2 => ?_, fun h2 => ?_⟩
      · have hm : n ∈ l := by simpa using h2
        refine ⟨_, own_ok w l hl, ?_⟩
        refine ⟨⟨⟨⟨L.le_refl _, ⟨rfl, L.le_of_eq ?_⟩, trivial⟩, L.le_of_eq ?_, trivial⟩, trivial⟩, trivial, rfl, rfl⟩
        · simp [takes, hm]
        · simp [takeE, hr, hn, hm]
      · have hm : ¬ n ∈ l := by simpa using h2
        refine ⟨_, left_ok w l, ?_⟩
        refine ⟨fun h3 => ?_, fun h3 => ?_⟩
        · have hz : left w l = 0 := by simpa using h3
          refine ⟨_, own_ok w l hl, ?_⟩
          refine ⟨⟨⟨⟨L.le_refl _, ⟨rfl, L.le_of_eq ?_⟩, trivial⟩, L.le_of_eq ?_, trivial⟩, trivial⟩, trivial, rfl, rfl⟩
          · simp [takes, hz]
          · simp [takeE, hr, hn, hm, hz]
        · have hz : ¬ left w l = 0 := by simpa using h3
          refine ⟨l.length, ⟨by rw [Il_length], by rw [Il_length], by rw [Il_length]; omega⟩, ?_, ?_⟩
          · show (((Il l).take l.length).length + 1) * 8 ≤ _
            rw [List.length_take, Il_length]; omega
          · refine ⟨⟨⟨⟨L.le_refl _, ⟨rfl, L.le_of_eq ?_⟩, trivial⟩, L.le_of_eq ?_, trivial⟩, trivial⟩, trivial, rfl, rfl⟩
            · have ht : takes w l n = true := by simp [takes, hr, hn, hm, hz]
              rw [ht, List.take_of_length_le (by rw [Il_length]; omega)]
              simp [Il, D.cells]
            · simp [takeE, hr, hn, hm, hz]

/-- kept hands over what is not given back -/
def keeps (l back : List Int) : List Int := l.filter fun n => !decide (n ∈ back)
def zsOf (l : List Int) : List (List D) := l.map fun n => [.int n]
theorem keeps_take {l back : List Int} {k : Nat} (hk : k < l.length) : keeps (l.take (k + 1)) back = keeps (l.take k) back ++ (if l[k] ∈ back then [] else [l[k]]) := by
  rw [List.take_succ_eq_append_getElem hk, keeps, List.filter_append]
  by_cases h : l[k] ∈ back <;> simp [h, keeps]
theorem keeps_split (l back : List Int) (k : Nat) : keeps l back = keeps (l.take k) back ++ keeps (l.drop k) back := by
  rw [keeps, keeps, keeps, ← List.filter_append, List.take_append_drop]

theorem kept1_it (w : Int) (l back : List Int) : N 33 [.ep [.int w, .sl 1 (Il l)] 0, .ep [.sl 1 (Il back)] 0] (zsOf (keeps l back)) := by
  refine it33 rfl fun y hb => ?_
  refine ⟨Nat, fun k => ⟨[(0, .fn (.yield y) [] []), (2, .ep [.sl 1 (Il back)] 0), (7, Ds l), (8, .int l.length), (9, .int k)], ⟨[], [], 100, (keeps (l.take k) back).length + 1⟩⟩, fun k => k ≤ l.length, fun k => l.length - k, 0, Nat.zero_le _, ?_, ?_⟩
  · exact ⟨⟨⟨rfl, ⟨rfl, rfl⟩, trivial, trivial⟩, .inl rfl, L.le_refl _, L.le_of_eq (by simp [Il_length]), L.le_refl _, trivial⟩, trivial, rfl, rfl⟩
  · intro k hk hbk
    have hlen : l.length ≤ 9223372036854775807 := by have := (hbk.1 7 _ rfl).1; simpa [Il_length] using this
    refine ⟨fun h => ?_, fun h => ?_⟩
    · have hlt : k < l.length := by simpa using h
      have inc : IntKind.i64.wrap ((k : Int) + 1) = ((k + 1 : Nat) : Int) := by rw [wrap64 (by omega) (by omega)]; simp
      refine ⟨[.int l[k]], ⟨k, rfl, by simp [Il_get, hlt]⟩, ?_⟩
      refine ⟨_, contains_ok back l[k], ?_⟩
      have hkt := keeps_take (back := back) hlt
      refine ⟨fun h1 => ?_, fun h1 => ?_⟩
      · have hb' : ¬ l[k] ∈ back := by simpa using h1
        rw [if_neg hb'] at hkt
        refine ⟨⟨rfl, ?_⟩, ?_, ?_⟩
        · rw [zsOf, List.getElem?_map, keeps_split l back (k + 1), hkt, List.append_assoc, List.getElem?_append_right (Nat.le_refl _)]
          simp
        · refine ⟨fun h2 => ?_, fun h2 => ?_⟩
          · simp [h1] at h2
          · refine ⟨k + 1, hlt, ?_, ?_⟩
            · show l.length - (k + 1) < l.length - k
              omega
            · refine ⟨⟨⟨rfl, ⟨rfl, rfl⟩, trivial, trivial⟩, .inl rfl, L.le_refl _, L.le_refl _, L.le_of_eq (by rw [inc]), trivial⟩, trivial, ?_, rfl⟩
              rw [hkt]; simp
        · refine ⟨fun h2 => .inl rfl, fun h2 => ?_⟩
          simp [h1] at h2
      · have hb' : l[k] ∈ back := by simpa using h1
        rw [if_pos hb'] at hkt
        refine ⟨fun h2 => ?_, fun h2 => ?_⟩
        · simp [hb'] at h2
        · refine ⟨k + 1, hlt, ?_, ?_⟩
          · show l.length - (k + 1) < l.length - k
            omega
          · refine ⟨⟨⟨rfl, ⟨rfl, rfl⟩, trivial, trivial⟩, .inl rfl, L.le_refl _, L.le_refl _, L.le_of_eq (by rw [inc]), trivial⟩, trivial, ?_, rfl⟩
            rw [hkt]; simp
    · have hge : k = l.length := by have : ¬ ((k : Int) < l.length) := by simpa using h
                                    omega
      refine .inr ?_
      rw [hge, List.take_length, zsOf, List.length_map]

theorem kept_ok (w : Int) (l back : List Int) : M 30 [Dc w l, Ds back] (.fn (.func 33) [] [.ep [.int w, .sl 1 (Il l)] 0, .ep [.sl 1 (Il back)] 0]) := by
  refine go30 rfl rfl fun hb => ?_
  refine ⟨⟨⟨rfl, ⟨rfl, rfl⟩, trivial, .inr ⟨_, rfl, rfl, _, rfl, rfl⟩, .inr ⟨_, rfl, rfl, _, rfl, rfl⟩, trivial⟩, trivial⟩, trivial, rfl, rfl⟩

def giveL (w : Int) (l back : List Int) : List Int := if right w l then keeps l back else l
theorem give_ok (w : Int) (l back : List Int) (hl : Sm l) : M 21 [Dc w l, Ds back] (.tup [.agg [.int w, .own 0 1 (Il (giveL w l back))], .int (if right w l then l.length - (keeps l back).length else 0), .int (if right w l then 0 else 1)]) := by
  refine go21 rfl rfl fun hb => ?_
  refine ⟨_, right_ok w l, ?_⟩
  refine ⟨fun h => ?_, fun h => ?_⟩
  · have hr : right w l = false := by simpa using h
    refine ⟨_, own_ok w l hl, ?_⟩
    refine ⟨⟨⟨⟨L.le_refl _, ⟨rfl, L.le_of_eq ?_⟩, trivial⟩, L.le_of_eq ?_, L.le_of_eq ?_, trivial⟩, trivial⟩, trivial, rfl, rfl⟩
    · simp [giveL, hr]
    · simp [hr]
    · simp [hr]
  · have hr : right w l = true := by simpa using h
    refine ⟨_, kept_ok w l back, ?_⟩
    refine ⟨zsOf (keeps l back), [(2, .ref 999999 0), (4, .ref 999998 0), (7, .ref 999997 0)],
      fun i => ⟨[(999997, .cells [.int w, .own 999000 1 (Il ((keeps l back).take i))]), (999998, .cells [.int 0, .d (.l .nil)]), (999999, .cells [.int w, Ds l])], [999000], 900000, 0⟩, kept1_it w l back, ?_, rfl, ?_, ?_, ?_⟩
    · intro ds hds
      obtain ⟨n, _, rfl⟩ := List.mem_map.1 hds
      rfl
    · exact ⟨⟨⟨rfl, rfl⟩, ⟨rfl, rfl⟩, ⟨rfl, rfl⟩, trivial⟩, ⟨⟨L.le_refl _, rfl, trivial⟩, ⟨L.le_refl _, L.le_refl _, trivial⟩, ⟨L.le_refl _, L.le_refl _, trivial⟩, trivial⟩, rfl, rfl⟩
    · intro i ds hz _
      obtain ⟨x, hx, rfl⟩ : ∃ x, (keeps l back)[i]? = some x ∧ ds = [.int x] := by
        rw [zsOf, List.getElem?_map, Option.map_eq_some_iff] at hz
        obtain ⟨x, h1, rfl⟩ := hz
        exact ⟨x, h1, rfl⟩
      obtain ⟨hlt, hx'⟩ := List.getElem?_eq_some_iff.1 hx
      have hkl : (keeps l back).length ≤ l.length := List.length_filter_le _ _
      refine ⟨?_, ?_⟩
      · show ((Il ((keeps l back).take i)).length + 1) * 8 ≤ _
        rw [Il_length, List.length_take]; omega
      · refine ⟨⟨⟨rfl, rfl⟩, ⟨rfl, rfl⟩, ⟨rfl, rfl⟩, trivial⟩, ⟨⟨L.le_refl _, ⟨rfl, L.le_of_eq ?_⟩, trivial⟩, ⟨L.le_refl _, L.le_refl _, trivial⟩, ⟨L.le_refl _, L.le_refl _, trivial⟩, trivial⟩, rfl, rfl⟩
        rw [List.take_succ_eq_append_getElem hlt, hx']
        simp [Il, D.cells]
    · have hw := right_bounds hr
      have hkl : (keeps l back).length ≤ l.length := List.length_filter_le _ _
      have hz : (zsOf (keeps l back)).length = (keeps l back).length := by rw [zsOf, List.length_map]
      refine ⟨rfl, ⟨⟨⟨L.le_refl _, ⟨rfl, L.le_of_eq ?_⟩, trivial⟩, L.le_of_eq ?_, L.le_of_eq ?_, trivial⟩, trivial⟩, trivial, rfl, rfl⟩
      · rw [hz, List.take_length, giveL, hr]; rfl
      · rw [hz, List.take_length, Il_length, Il_length, hr, wrap64 (by omega) (by omega)]; rfl
      · rw [hr]; rfl

theorem new_ok (w : Int) : M 9 [.int w] (.tup [.agg [.int (if 1 ≤ w ∧ w ≤ 16 then w else 0), .own 0 1 []], .int (if 1 ≤ w ∧ w ≤ 16 then 0 else 1)]) := by
  refine go9 rfl rfl fun hb => ?_
  refine ⟨_, (right_ok w []).le ⟨.agg ⟨L.le_refl _, L.le_nil 1, trivial⟩, trivial⟩, ?_⟩
  have hr : right w [] = (decide (1 ≤ w) && decide (w ≤ 16) && decide ((0 : Int) ≤ w)) := by simp [right, fits]
  refine ⟨fun h => ?_, fun h => ?_⟩
  · have hn : ¬ (1 ≤ w ∧ w ≤ 16) := fun h' => by
      rw [hr] at h; simp [h'.1, h'.2] at h; omega
    refine ⟨⟨⟨⟨L.le_of_eq ?_, rfl, trivial⟩, L.le_of_eq ?_, trivial⟩, trivial⟩, trivial, rfl, rfl⟩
    · rw [if_neg hn]
    · rw [if_neg hn]
  · have hy : 1 ≤ w ∧ w ≤ 16 := by
      rw [hr] at h; simp at h; exact ⟨h.1.1, h.1.2⟩
    refine ⟨⟨⟨⟨L.le_of_eq ?_, rfl, trivial⟩, L.le_of_eq ?_, trivial⟩, trivial⟩, trivial, rfl, rfl⟩
    · rw [if_pos hy]
    · rw [if_pos hy]

theorem reset_ok (w : Int) (l : List Int) (hl : Sm l) : M 23 [Dc w l] (.tup [.agg [.int w, .own 0 1 (Il (if right w l then [] else l))], .own 1 1 (Il (if right w l then l else [])), .int (if right w l then 0 else 1)]) := by
  refine go23 rfl rfl fun hb => ?_
  refine ⟨_, right_ok w l, ?_⟩
  refine ⟨fun h => ?_, fun h => ?_⟩
  · have hr : right w l = false := by simpa using h
    refine ⟨_, own_ok w l hl, ?_⟩
    rw [hr]
    exact ⟨⟨⟨⟨L.le_refl _, ⟨rfl, L.le_refl _⟩, trivial⟩, rfl, L.le_refl _, trivial⟩, trivial⟩, trivial, rfl, rfl⟩
  · have hr : right w l = true := by simpa using h
    refine ⟨_, clone_ok l hl, ?_⟩
    rw [hr]
    exact ⟨rfl, ⟨⟨⟨L.le_refl _, rfl, trivial⟩, ⟨rfl, L.le_refl _⟩, L.le_refl _, trivial⟩, trivial⟩, trivial, rfl, rfl⟩

theorem refNew_ok (w : Int) : M 10 [.int w] (.tup [.agg [.int (if 1 ≤ w ∧ w ≤ 16 then w else 0), .own 0 1 []], .int (if 1 ≤ w ∧ w ≤ 16 then 0 else 1)]) := by
  refine go10 rfl rfl fun hb => ?_
  refine ⟨fun h => ?_, fun h => ?_⟩
  · have hn : ¬ (1 ≤ w ∧ w ≤ 16) := fun h' => by
      have h1 : ¬ w < 1 := by omega
      simp [h1] at h; omega
    refine ⟨⟨⟨⟨L.le_of_eq ?_, rfl, trivial⟩, L.le_of_eq ?_, trivial⟩, trivial⟩, trivial, rfl, rfl⟩
    · rw [if_neg hn]
    · rw [if_neg hn]
  · have hy : 1 ≤ w ∧ w ≤ 16 := by
      by_cases h1 : w < 1 <;> simp [h1] at h; omega
    refine ⟨⟨⟨⟨L.le_of_eq ?_, rfl, trivial⟩, L.le_of_eq ?_, trivial⟩, trivial⟩, trivial, rfl, rfl⟩
    · rw [if_pos hy]
    · rw [if_pos hy]

theorem in_ok (l : List Int) (n : Int) : M 28 [Ds l, .int n] (.bool (decide (n ∈ l))) := by
  refine go28 rfl rfl fun hb => ?_
  have hlen : l.length ≤ 9223372036854775807 := by have := (hb.1 0 _ rfl).1; simpa [Il_length] using this
  refine ⟨Nat, fun k => ⟨[(0, Ds l), (1, .int n), (5, .int k)], ⟨[], [], 100, 0⟩⟩, fun k => k ≤ l.length ∧ ∀ j, j < k → l[j]? ≠ some n, fun k => l.length - k, 0, ?_, ?_, ?_⟩
  · exact ⟨Nat.zero_le _, fun j h => absurd h (Nat.not_lt_zero j)⟩
  · exact ⟨⟨L.le_refl _, L.le_refl _, L.le_refl _, trivial⟩, trivial, rfl, rfl⟩
  · rintro k ⟨hk, hno⟩ _
    refine ⟨fun h => ?_, fun h => ?_⟩
    · have hlt : k < l.length := by simpa [Il_length] using h
      refine ⟨[.int l[k]], ⟨k, rfl, by simp [Il_get, hlt]⟩, ?_⟩
      refine ⟨fun h => ?_, fun h => ?_⟩
      · have hn : l[k] = n := by simpa using h
        refine ⟨⟨L.le_of_eq ?_, trivial⟩, trivial, rfl, rfl⟩
        have : n ∈ l := hn ▸ List.getElem_mem hlt
        simp [this]
      · have hn : ¬ l[k] = n := by simpa using h
        refine ⟨k + 1, ⟨hlt, ?_⟩, ?_, ?_⟩
        · intro j hj
          by_cases e : j = k
          · subst e; simp [hlt]; exact hn
          · exact hno j (by omega)
        · show l.length - (k + 1) < l.length - k
          omega
        · exact ⟨⟨L.le_refl _, L.le_refl _, L.le_of_eq (by rw [wrap64 (by omega) (by omega)]; simp), trivial⟩, trivial, rfl, rfl⟩
    · have hge : l.length ≤ k := by have : ¬ ((k : Int) < (Il l).length) := by simpa using h
                                    rw [Il_length] at this; omega
      refine ⟨⟨L.le_of_eq ?_, trivial⟩, trivial, rfl, rfl⟩
      have : ¬ n ∈ l := by
        intro hm
        obtain ⟨i, hi, rfl⟩ := List.getElem_of_mem hm
        exact hno i (by omega) (List.getElem?_eq_getElem hi)
      simp [this]

theorem refRight_ok (w : Int) (l : List Int) : M 16 [Dc w l] (.bool (right w l)) := by
  refine go16 rfl rfl fun hb => ?_
  have hlen : l.length ≤ 9223372036854775807 := by have := (hb.1 0 _ rfl).2.1.1; simpa [Il_length] using this
  refine ⟨fun h => ?_, fun h => ?_⟩
  · refine ⟨⟨L.le_of_eq ?_, trivial⟩, trivial, rfl, rfl⟩
    rw [Il_length] at h
    have : (decide (1 ≤ w) && decide (w ≤ 16) && decide ((l.length : Int) ≤ w)) = false := by
      by_cases h1 : w < 1 <;> by_cases h2 : w > 16 <;> simp [h1, h2] at h ⊢ <;> omega
    rw [right, this]; simp
  · have hw : 1 ≤ w ∧ w ≤ 16 ∧ (l.length : Int) ≤ w := by
      rw [Il_length] at h
      by_cases h1 : w < 1 <;> by_cases h2 : w > 16 <;> simp [h1, h2] at h
      omega
    have hr : right w l = fits [] l := by
      rw [right]
      simp [hw.1, hw.2.1, hw.2.2]
    refine ⟨Nat, fun k => ⟨[(1, .ref 999999 0), (3, .int k)], ⟨[(999999, .cells [.int w, Ds l])], [], 999999, 0⟩⟩, fun k => k ≤ l.length ∧ fits [] l = fits (l.take k) (l.drop k), fun k => l.length - k, 0, ?_, ?_, ?_⟩
    · exact ⟨Nat.zero_le _, by simp⟩
    · exact ⟨⟨⟨rfl, rfl⟩, L.le_refl _, trivial⟩, ⟨⟨L.le_refl _, L.le_refl _, trivial⟩, trivial⟩, rfl, rfl⟩
    · rintro k ⟨hk, hfit⟩ _
      refine ⟨fun h => ?_, fun h => ?_⟩
      · have hlt : k < l.length := by simpa [Il_length] using h
        refine ⟨[.int l[k]], ⟨k, rfl, by simp [Il_get, hlt]⟩, ?_⟩
        refine ⟨[.int l[k]], fun _ => ⟨k, rfl, by simp [Il_get, hlt]⟩, ?_⟩
        refine ⟨k, fun _ => ⟨rfl, by rw [Il_length]; omega⟩, ?_⟩
        refine ⟨[.int l[k]], fun _ => ⟨k, rfl, by simp [Il_get, hlt]⟩, ?_⟩
        refine ⟨_, fun _ => by rw [Il, ← List.map_take]; exact in_ok (l.take k) l[k], ?_⟩
        refine ⟨rfl, ?_⟩
        rw [fits_drop l k hlt] at hfit
        have hnum : number l[k] = !(bif decide (l[k] < 1) then true else decide (l[k] > 65535)) := by
          rw [number]
          by_cases h1 : l[k] < 1
          · have : ¬ 1 ≤ l[k] := by omega
            simp [h1, this]
          · have : 1 ≤ l[k] := by omega
            by_cases h2 : l[k] ≤ 65535 <;> simp [h1, this, h2] <;> omega
        refine ⟨fun h => ?_, fun h => ?_⟩
        · refine ⟨⟨L.le_of_eq ?_, trivial⟩, trivial, rfl, rfl⟩
          rw [hr, hfit, hnum]
          revert h
          generalize (bif decide (l[k] < 1) then true else decide (l[k] > 65535)) = x
          cases x <;> cases h2 : decide (l[k] ∈ List.take k l) <;> simp [h2]
        · refine ⟨k + 1, ⟨hlt, ?_⟩, ?_, ?_⟩
          · rw [hfit, hnum]
            revert h
            generalize (bif decide (l[k] < 1) then true else decide (l[k] > 65535)) = x
            cases x <;> cases h2 : decide (l[k] ∈ List.take k l) <;> simp [h2]
          · show l.length - (k + 1) < l.length - k
            omega
          · exact ⟨⟨⟨rfl, rfl⟩, L.le_of_eq (by rw [wrap64 (by omega) (by omega)]; simp), trivial⟩, ⟨⟨L.le_refl _, L.le_refl _, trivial⟩, trivial⟩, rfl, rfl⟩
      · have hge : k = l.length := by have : ¬ ((k : Int) < (Il l).length) := by simpa using h
                                      rw [Il_length] at this; omega
        subst hge
        rw [List.drop_length] at hfit
        refine ⟨⟨L.le_of_eq ?_, trivial⟩, trivial, rfl, rfl⟩
        rw [hr, hfit]; rfl

def pick (c n : Int) : Int := (if c < 0 then -(c + 1) else c).tmod n
theorem pick_ok (c n : Int) (hc : -9223372036854775808 ≤ c ∧ c < 9223372036854775808) (hn : 0 < n) : M 14 [.int c, .int n] (.int (pick c n)) := by
  refine go14 rfl rfl fun hb => ?_
  refine ⟨fun h => ?_, fun h => ?_⟩
  · have hlt : c < 0 := by simpa using h
    refine ⟨⟨rfl, by omega⟩, ⟨⟨L.le_of_eq ?_, trivial⟩, trivial, rfl, rfl⟩⟩
    rw [wrap64 (x := c + 1) (by omega) (by omega), wrap64 (by omega) (by omega), pick, if_pos hlt]
    simp
  · have hge : ¬ c < 0 := by simpa using h
    refine ⟨⟨rfl, by omega⟩, ⟨⟨L.le_of_eq ?_, trivial⟩, trivial, rfl, rfl⟩⟩
    rw [pick, if_neg hge]
theorem pick_range {c n : Int} (hn : 0 < n) : 0 ≤ pick c n ∧ pick c n < n := by
  have h0 : 0 ≤ (if c < 0 then -(c + 1) else c) := by split <;> omega
  rw [pick]
  exact ⟨Int.tmod_nonneg _ h0, Int.tmod_lt_of_pos _ hn⟩

theorem refLeft_ok (w : Int) (l : List Int) : M 18 [Dc w l] (.int (left w l)) := by
  refine go18 rfl rfl fun hb => ?_
  refine ⟨_, refRight_ok w l, ?_⟩
  refine ⟨fun h => ?_, fun h => ?_⟩
  · refine ⟨⟨L.le_of_eq ?_, trivial⟩, trivial, rfl, rfl⟩
    have : right w l = false := by simpa using h
    simp [this, left]
  · have hr : right w l = true := by simpa using h
    have hw := right_bounds hr
    refine ⟨⟨L.le_of_eq ?_, trivial⟩, trivial, rfl, rfl⟩
    rw [Il_length, wrap64 (by omega) (by omega), left, hr]; simp

theorem refOwn_ok (w : Int) (l : List Int) (hl : Sm l) : M 13 [Dc w l] (.agg [.int w, .own 0 1 (Il l)]) := by
  refine go13 rfl rfl fun hb => ?_
  refine ⟨?_, ?_⟩
  · show (0 + (Il l).length) * 8 ≤ _
    rw [Il_length]; omega
  · exact ⟨rfl, ⟨⟨L.le_refl _, ⟨rfl, L.le_refl _⟩, trivial⟩, trivial⟩, trivial, rfl, rfl⟩

theorem ints_ok (l m : List Int) : M 25 [Ds l, Ds m] (.bool (decide (l = m))) := by
  refine go25 rfl rfl fun hb => ?_
  have hlen : l.length ≤ 9223372036854775807 := by have := (hb.1 0 _ rfl).1; simpa [Il_length] using this
  refine ⟨fun h => ?_, fun h => ?_⟩
  · refine ⟨⟨L.le_of_eq ?_, trivial⟩, trivial, rfl, rfl⟩
    have hne : ¬ l.length = m.length := by simpa [Il_length, bne, Int.ofNat_inj] using h
    have : ¬ l = m := fun e => hne (by rw [e])
    simp [this]
  · have heq : l.length = m.length := by simpa [Il_length, bne, Int.ofNat_inj] using h
    refine ⟨Nat, fun k => ⟨[(0, Ds l), (1, Ds m), (5, .int k)], ⟨[], [], 100000, 0⟩⟩, fun k => k ≤ l.length ∧ l.take k = m.take k, fun k => l.length - k, 0, ?_, ?_, ?_⟩
    · exact ⟨Nat.zero_le _, by simp⟩
    · exact ⟨⟨L.le_refl _, L.le_refl _, L.le_refl _, trivial⟩, trivial, rfl, rfl⟩
    · rintro k ⟨hk, hpre⟩ _
      refine ⟨fun h => ?_, fun h => ?_⟩
      · have hlt : k < l.length := by simpa [Il_length] using h
        have hlt2 : k < m.length := by omega
        refine ⟨[.int l[k]], ⟨k, rfl, by simp [Il_get, hlt]⟩, ?_⟩
        refine ⟨[.int m[k]], ⟨k, rfl, by simp [Il_get, hlt2]⟩, ?_⟩
        refine ⟨rfl, fun h => ?_, fun h => ?_⟩
        · refine ⟨⟨L.le_of_eq ?_, trivial⟩, trivial, rfl, rfl⟩
          have hne : ¬ l[k] = m[k] := by simpa [bne] using h
          have : ¬ l = m := fun e => hne (by subst e; rfl)
          simp [this]
        · have he : l[k] = m[k] := by simpa [bne] using h
          refine ⟨k + 1, ⟨hlt, ?_⟩, ?_, ?_⟩
          · rw [List.take_succ_eq_append_getElem hlt, List.take_succ_eq_append_getElem hlt2, hpre, he]
          · show l.length - (k + 1) < l.length - k
            omega
          · exact ⟨⟨L.le_refl _, L.le_refl _, L.le_of_eq (by rw [wrap64 (by omega) (by omega)]; simp), trivial⟩, trivial, rfl, rfl⟩
      · have hge : k = l.length := by have : ¬ ((k : Int) < (Il l).length) := by simpa using h
                                      rw [Il_length] at this; omega
        refine ⟨⟨L.le_of_eq ?_, trivial⟩, trivial, rfl, rfl⟩
        have : l = m := by
          have := hpre
          rw [hge, List.take_length, heq, List.take_length] at this
          exact this
        simp [this]

theorem same_ok (w : Int) (l : List Int) (v : Int) (m : List Int) : M 11 [Dc w l, Dc v m] (.bool (decide (w = v ∧ l = m))) := by
  refine go11 rfl rfl fun hb => ?_
  have hlen : l.length ≤ 9223372036854775807 := by have := (hb.1 0 _ rfl).2.1.1; simpa [Il_length] using this
  refine ⟨fun h => ?_, fun h => ?_⟩
  · refine ⟨⟨L.le_of_eq ?_, trivial⟩, trivial, rfl, rfl⟩
    rw [Il_length, Il_length] at h
    have : ¬ (w = v ∧ l = m) := by
      rintro ⟨rfl, rfl⟩
      simp [bne] at h
    simp only [this, decide_false]
  · have heq : w = v ∧ l.length = m.length := by
      rw [Il_length, Il_length] at h
      by_cases h1 : w = v <;> simp [h1, bne, Int.ofNat_inj] at h
      exact ⟨h1, h⟩
    obtain ⟨rfl, heq⟩ := heq
    refine ⟨Nat, fun k => ⟨[(2, .ref 999999 0), (3, .ref 999998 0), (5, .int k)], ⟨[(999999, .cells [.int w, Ds l]), (999998, .cells [.int w, Ds m])], [], 999998, 0⟩⟩, fun k => k ≤ l.length ∧ l.take k = m.take k, fun k => l.length - k, 0, ?_, ?_, ?_⟩
    · exact ⟨Nat.zero_le _, by simp⟩
    · exact ⟨⟨⟨rfl, rfl⟩, ⟨rfl, rfl⟩, L.le_refl _, trivial⟩, ⟨⟨L.le_refl _, L.le_refl _, trivial⟩, ⟨L.le_refl _, L.le_refl _, trivial⟩, trivial⟩, rfl, rfl⟩
    · rintro k ⟨hk, hpre⟩ _
      refine ⟨fun h => ?_, fun h => ?_⟩
      · have hlt : k < l.length := by simpa [Il_length] using h
        have hlt2 : k < m.length := by omega
        refine ⟨[.int l[k]], ⟨k, rfl, by simp [Il_get, hlt]⟩, ?_⟩
        refine ⟨[.int m[k]], ⟨k, rfl, by simp [Il_get, hlt2]⟩, ?_⟩
        refine ⟨rfl, fun h => ?_, fun h => ?_⟩
        · refine ⟨⟨L.le_of_eq ?_, trivial⟩, trivial, rfl, rfl⟩
          have hne : ¬ l[k] = m[k] := by simpa [bne] using h
          have : ¬ l = m := fun e => hne (by subst e; rfl)
          simp [this]
        · have he : l[k] = m[k] := by simpa [bne] using h
          refine ⟨k + 1, ⟨hlt, ?_⟩, ?_, ?_⟩
          · rw [List.take_succ_eq_append_getElem hlt, List.take_succ_eq_append_getElem hlt2, hpre, he]
          · show l.length - (k + 1) < l.length - k
            omega
          · exact ⟨⟨⟨rfl, rfl⟩, ⟨rfl, rfl⟩, L.le_of_eq (by rw [wrap64 (by omega) (by omega)]; simp), trivial⟩, ⟨⟨L.le_refl _, L.le_refl _, trivial⟩, ⟨L.le_refl _, L.le_refl _, trivial⟩, trivial⟩, rfl, rfl⟩
      · have hge : k = l.length := by have : ¬ ((k : Int) < (Il l).length) := by simpa using h
                                      rw [Il_length] at this; omega
        refine ⟨⟨L.le_of_eq ?_, trivial⟩, trivial, rfl, rfl⟩
        have : l = m := by
          have := hpre
          rw [hge, List.take_length, heq, List.take_length] at this
          exact this
        simp [this]

theorem refTake_ok (w : Int) (l : List Int) (n : Int) (hl : Sm l) : M 20 [Dc w l, .int n] (.tup [.agg [.int w, .own 0 1 (Il (if takes w l n then l ++ [n] else l))], .int (takeE w l n)]) := by
  refine go20 rfl rfl fun hb => ?_
  refine ⟨_, refOwn_ok w l hl, ?_⟩
  refine ⟨_, refRight_ok w l, ?_⟩
  have hnum : number n = !(decide (n < 1) || decide (n > 65535)) := by
    rw [number]
    by_cases h1 : n < 1
    · have : ¬ 1 ≤ n := by omega
      simp [h1, this]
    · have : 1 ≤ n := by omega
      by_cases h2 : n ≤ 65535 <;> simp [h1, this, h2] <;> omega
  refine ⟨fun h => ?_, fun h => ?_⟩
  · have hrn : (right w l && number n) = false := by
      rw [hnum]
      revert h
      cases right w l <;> cases decide (n < 1) <;> cases decide (n > 65535) <;> simp
    refine ⟨⟨⟨⟨L.le_refl _, ⟨rfl, L.le_of_eq ?_⟩, trivial⟩, L.le_of_eq ?_, trivial⟩, trivial⟩, trivial, rfl, rfl⟩
    · simp [takes, hrn]
    · simp only [takeE, hrn]; rfl
  · have hrn : right w l = true ∧ number n = true := by
      rw [hnum]
      revert h
      cases right w l <;> cases decide (n < 1) <;> cases decide (n > 65535) <;> simp
    obtain ⟨hr, hn⟩ := hrn
    have hw := right_bounds hr
    refine ⟨_, in_ok l n, ?_⟩
    refine ⟨fun h2 => ?_, fun h2 => ?_⟩
    · have hm : n ∈ l := by simpa using h2
      refine ⟨⟨⟨⟨L.le_refl _, ⟨rfl, L.le_of_eq ?_⟩, trivial⟩, L.le_of_eq ?_, trivial⟩, trivial⟩, trivial, rfl, rfl⟩
      · simp [takes, hm]
      · simp [takeE, hr, hn, hm]
    · have hm : ¬ n ∈ l := by simpa using h2
      refine ⟨fun h3 => ?_, fun h3 => ?_⟩
      · have hz : left w l = 0 := by
          rw [Il_length] at h3
          have : (l.length : Int) ≥ w := by simpa using h3
          simp only [left, hr, if_true]; omega
        refine ⟨⟨⟨⟨L.le_refl _, ⟨rfl, L.le_of_eq ?_⟩, trivial⟩, L.le_of_eq ?_, trivial⟩, trivial⟩, trivial, rfl, rfl⟩
        · simp [takes, hz]
        · simp [takeE, hr, hn, hm, hz]
      · have hz : ¬ left w l = 0 := by
          rw [Il_length] at h3
          have : ¬ (l.length : Int) ≥ w := by simpa using h3
          simp only [left, hr, if_true]; omega
        refine ⟨?_, ?_⟩
        · show ((Il l).length + 1) * 8 ≤ _
          rw [Il_length]; omega
        · refine ⟨⟨⟨⟨L.le_refl _, ⟨rfl, L.le_of_eq ?_⟩, trivial⟩, L.le_of_eq ?_, trivial⟩, trivial⟩, trivial, rfl, rfl⟩
          · have ht : takes w l n = true := by simp [takes, hr, hn, hm, hz]
            rw [ht]
            simp [Il, D.cells]
          · simp [takeE, hr, hn, hm, hz]

theorem refReset_ok (w : Int) (l : List Int) (hl : Sm l) : M 24 [Dc w l] (.tup [.agg [.int w, .own 0 1 (Il (if right w l then [] else l))], .own 1 1 (Il (if right w l then l else [])), .int (if right w l then 0 else 1)]) := by
  refine go24 rfl rfl fun hb => ?_
  refine ⟨_, refRight_ok w l, ?_⟩
  refine ⟨fun h => ?_, fun h => ?_⟩
  · have hr : right w l = false := by simpa using h
    refine ⟨_, refOwn_ok w l hl, ?_⟩
    rw [hr]
    exact ⟨⟨⟨⟨L.le_refl _, ⟨rfl, L.le_refl _⟩, trivial⟩, rfl, L.le_refl _, trivial⟩, trivial⟩, trivial, rfl, rfl⟩
  · have hr : right w l = true := by simpa using h
    refine ⟨?_, ?_⟩
    · show (0 + (Il l).length) * 8 ≤ _
      rw [Il_length]; omega
    · rw [hr]
      exact ⟨rfl, ⟨⟨⟨L.le_refl _, rfl, trivial⟩, ⟨rfl, L.le_refl _⟩, L.le_refl _, trivial⟩, trivial⟩, trivial, rfl, rfl⟩

theorem refGive_ok (w : Int) (l back : List Int) (hl : Sm l) : M 22 [Dc w l, Ds back] (.tup [.agg [.int w, .own 0 1 (Il (giveL w l back))], .int (if right w l then l.length - (keeps l back).length else 0), .int (if right w l then 0 else 1)]) := by
  refine go22 rfl rfl fun hb => ?_
  refine ⟨_, refRight_ok w l, ?_⟩
  refine ⟨fun h => ?_, fun h => ?_⟩
  · have hr : right w l = false := by simpa using h
    refine ⟨_, refOwn_ok w l hl, ?_⟩
    refine ⟨⟨⟨⟨L.le_refl _, ⟨rfl, L.le_of_eq ?_⟩, trivial⟩, L.le_of_eq ?_, L.le_of_eq ?_, trivial⟩, trivial⟩, trivial, rfl, rfl⟩
    · simp [giveL, hr]
    · simp [hr]
    · simp [hr]
  · have hr : right w l = true := by simpa using h
    have hw := right_bounds hr
    refine ⟨Nat, fun k => ⟨[(1, Ds back), (2, .ref 999999 0), (4, .ref 999998 0), (7, .ref 999997 0), (8, .int k)],
      ⟨[(999997, .cells [.int w, .own 999000 1 (Il (keeps (l.take k) back))]), (999998, .cells [.int 0, .d (.l .nil)]), (999999, .cells [.int w, Ds l])], [999000], 900000, 0⟩⟩, fun k => k ≤ l.length, fun k => l.length - k, 0, Nat.zero_le _, ?_, ?_⟩
    · exact ⟨⟨L.le_refl _, ⟨rfl, rfl⟩, ⟨rfl, rfl⟩, ⟨rfl, rfl⟩, L.le_refl _, trivial⟩, ⟨⟨L.le_refl _, rfl, trivial⟩, ⟨L.le_refl _, L.le_refl _, trivial⟩, ⟨L.le_refl _, L.le_refl _, trivial⟩, trivial⟩, rfl, rfl⟩
    · intro k hk _
      have inc : IntKind.i64.wrap ((k : Int) + 1) = ((k + 1 : Nat) : Int) := by rw [wrap64 (by omega) (by omega)]; simp
      refine ⟨fun h => ?_, fun h => ?_⟩
      · have hlt : k < l.length := by simpa [Il_length] using h
        have hkt := keeps_take (back := back) hlt
        refine ⟨[.int l[k]], ⟨k, rfl, by simp [Il_get, hlt]⟩, ?_⟩
        refine ⟨_, in_ok back l[k], ?_⟩
        refine ⟨fun h1 => ?_, fun h1 => ?_⟩
        · have hb' : ¬ l[k] ∈ back := by simpa using h1
          rw [if_neg hb'] at hkt
          refine ⟨[.int l[k]], ⟨k, rfl, by simp [Il_get, hlt]⟩, ?_⟩
          refine ⟨?_, ?_⟩
          · show ((Il (keeps (l.take k) back)).length + 1) * 8 ≤ _
            have : (keeps (l.take k) back).length ≤ (l.take k).length := List.length_filter_le _ _
            rw [Il_length]; simp at this; omega
          · refine ⟨rfl, k + 1, hlt, ?_, ?_⟩
            · show l.length - (k + 1) < l.length - k
              omega
            · refine ⟨⟨L.le_refl _, ⟨rfl, rfl⟩, ⟨rfl, rfl⟩, ⟨rfl, rfl⟩, L.le_of_eq (by rw [inc]), trivial⟩, ⟨⟨L.le_refl _, ⟨rfl, L.le_of_eq ?_⟩, trivial⟩, ⟨L.le_refl _, L.le_refl _, trivial⟩, ⟨L.le_refl _, L.le_refl _, trivial⟩, trivial⟩, rfl, rfl⟩
              rw [hkt]; simp [Il, D.cells]
        · have hb' : l[k] ∈ back := by simpa using h1
          rw [if_pos hb'] at hkt
          refine ⟨k + 1, hlt, ?_, ?_⟩
          · show l.length - (k + 1) < l.length - k
            omega
          · refine ⟨⟨L.le_refl _, ⟨rfl, rfl⟩, ⟨rfl, rfl⟩, ⟨rfl, rfl⟩, L.le_of_eq (by rw [inc]), trivial⟩, ⟨⟨L.le_refl _, ⟨rfl, L.le_of_eq ?_⟩, trivial⟩, ⟨L.le_refl _, L.le_refl _, trivial⟩, ⟨L.le_refl _, L.le_refl _, trivial⟩, trivial⟩, rfl, rfl⟩
            rw [hkt]; simp
      · have hge : k = l.length := by have : ¬ ((k : Int) < (Il l).length) := by simpa using h
                                      rw [Il_length] at this; omega
        have hkl : (keeps l back).length ≤ l.length := List.length_filter_le _ _
        refine ⟨rfl, ⟨⟨⟨L.le_refl _, ⟨rfl, L.le_of_eq ?_⟩, trivial⟩, L.le_of_eq ?_, L.le_of_eq ?_, trivial⟩, trivial⟩, trivial, rfl, rfl⟩
        · rw [hge, List.take_length, giveL, hr]; rfl
        · rw [hge, List.take_length, Il_length, Il_length, hr, wrap64 (by omega) (by omega)]; rfl
        · rw [hr]; rfl

abbrev In64 (c : Int) : Prop := -9223372036854775808 ≤ c ∧ c < 9223372036854775808
def step (w : Int) (l : List Int) (x : Int) : List Int := if takes w l (1 + pick x 30) then l ++ [1 + pick x 30] else l
def crL (w : Int) (raw : List Int) : List Int := (raw.take 20).foldl (step w) []
def crW (window : Int) : Int := 1 + pick window 16
theorem crW_range (window : Int) : 1 ≤ crW window ∧ crW window ≤ 16 := by
  have := pick_range (c := window) (n := 16) (by omega)
  rw [crW]; omega
theorem step_len (w : Int) (l : List Int) (x : Int) : (step w l x).length ≤ l.length + 1 := by
  unfold step; split <;> simp
theorem foldl_len (w : Int) : ∀ (raw l : List Int), (raw.foldl (step w) l).length ≤ l.length + raw.length
  | [], l => by simp
  | x :: raw, l => by
    have h1 := foldl_len w raw (step w l x)
    have h2 := step_len w l x
    simp only [List.foldl_cons, List.length_cons]; omega

theorem credit_ok (window : Int) (raw : List Int) (hw : In64 window) (hr : ∀ x ∈ raw, In64 x) : M 12 [.int window, Ds raw] (.agg [.int (crW window), .own 0 1 (Il (crL (crW window) raw))]) := by
  refine go12 rfl rfl fun hb => ?_
  have hlen : raw.length ≤ 9223372036854775807 := by have := (hb.1 1 _ rfl).1; simpa [Il_length] using this
  have hcw := crW_range window
  refine ⟨_, pick_ok window 16 hw (by omega), ?_⟩
  have e1 : IntKind.i64.wrap (1 + pick window 16) = crW window := by
    rw [wrap64]; rfl
    · have := hcw.1; rw [crW] at this; omega
    · have := hcw.2; rw [crW] at this; omega
  refine ⟨_, by rw [e1]; exact refNew_ok (crW window), ?_⟩
  rw [if_pos hcw]
  refine ⟨Nat, fun k => ⟨[(1, Ds raw), (4, .ref 999999 0), (5, .ref 999997 0), (7, .int k)], ⟨[(999997, .cells [.int (crW window), .own 999000 1 (Il ((raw.take k).foldl (step (crW window)) []))]), (999999, .cells [.int 0, .d (.l .nil)])], [999000], 900000, 0⟩⟩,
    fun k => k ≤ raw.length ∧ k ≤ 20, fun k => raw.length - k, 0, ⟨Nat.zero_le _, Nat.zero_le _⟩, ?_, ?_⟩
  · exact ⟨⟨L.le_refl _, ⟨rfl, rfl⟩, ⟨rfl, rfl⟩, L.le_refl _, trivial⟩, ⟨⟨L.le_refl _, ⟨rfl, L.le_refl _⟩, trivial⟩, ⟨L.le_refl _, L.le_refl _, trivial⟩, trivial⟩, rfl, rfl⟩
  · rintro k ⟨hk, hk20⟩ _
    refine ⟨fun h => ?_, fun h => ?_⟩
    · have hlt : k < raw.length ∧ k < 20 := by
        rw [Il_length] at h
        by_cases h1 : (k : Int) < raw.length <;> simp [h1] at h
        omega
      obtain ⟨hlt, hlt20⟩ := hlt
      have hx := pick_range (c := raw[k]) (n := 30) (by omega)
      refine ⟨[.int raw[k]], ⟨k, rfl, by simp [Il_get, hlt]⟩, ?_⟩
      refine ⟨_, pick_ok raw[k] 30 (hr _ (List.getElem_mem hlt)) (by omega), ?_⟩
      have e2 : IntKind.i64.wrap (1 + pick raw[k] 30) = 1 + pick raw[k] 30 := wrap64 (by omega) (by omega)
      have hsm : Sm ((raw.take k).foldl (step (crW window)) []) := by
        have h1 := foldl_len (crW window) (raw.take k) []
        have : (raw.take k).length ≤ 20 := by simp; omega
        simp only [List.length_nil] at h1
        show _ ≤ _
        omega
      refine ⟨_, by rw [e2]; exact refTake_ok (crW window) _ (1 + pick raw[k] 30) hsm, ?_⟩
      refine ⟨rfl, k + 1, ⟨hlt, hlt20⟩, ?_, ?_⟩
      · show raw.length - (k + 1) < raw.length - k
        omega
      · refine ⟨⟨L.le_refl _, ⟨rfl, rfl⟩, ⟨rfl, rfl⟩, L.le_of_eq ?_, trivial⟩, ⟨⟨L.le_refl _, ⟨rfl, L.le_of_eq ?_⟩, trivial⟩, ⟨L.le_refl _, L.le_refl _, trivial⟩, trivial⟩, rfl, rfl⟩
        · rw [wrap64 (by omega) (by omega)]; simp
        · rw [List.take_succ_eq_append_getElem hlt, List.foldl_append]
          rfl
    · refine ⟨⟨⟨L.le_refl _, ⟨rfl, L.le_of_eq ?_⟩, trivial⟩, trivial⟩, trivial, rfl, rfl⟩
      have hge : raw.take k = raw.take 20 := by
        rw [Il_length] at h
        by_cases h1 : (k : Int) < raw.length
        · simp [h1] at h
          have : k = 20 := by omega
          rw [this]
        · rw [List.take_of_length_le (by omega), List.take_of_length_le (by omega)]
      rw [hge]; rfl

set_option maxRecDepth 100000 in
theorem awake_ok : M 8 [] (.bool true) := by
  have n2 : M 9 [.int 2] (.tup [.agg [.int 2, .own 0 1 []], .int 0]) := new_ok 2
  have n17 : M 9 [.int 17] (.tup [.agg [.int 0, .own 0 1 []], .int 1]) := new_ok 17
  have t5 : M 19 [Dc 2 [], .int 5] (.tup [.agg [.int 2, .own 0 1 (Il [5])], .int 0]) := take_ok 2 [] 5 (by decide)
  have t7 : M 19 [Dc 2 [5], .int 7] (.tup [.agg [.int 2, .own 0 1 (Il [5, 7])], .int 0]) := take_ok 2 [5] 7 (by decide)
  have t9 : M 19 [Dc 2 [5, 7], .int 9] (.tup [.agg [.int 2, .own 0 1 (Il [5, 7])], .int 40]) := take_ok 2 [5, 7] 9 (by decide)
  have t55 : M 19 [Dc 2 [5, 7], .int 5] (.tup [.agg [.int 2, .own 0 1 (Il [5, 7])], .int 42]) := take_ok 2 [5, 7] 5 (by decide)
  have g : M 21 [Dc 2 [5, 7], Ds [5, 6]] (.tup [.agg [.int 2, .own 0 1 (Il [7])], .int 1, .int 0]) := give_ok 2 [5, 7] [5, 6] (by decide)
  have t79 : M 19 [Dc 2 [7], .int 9] (.tup [.agg [.int 2, .own 0 1 (Il [7, 9])], .int 0]) := take_ok 2 [7] 9 (by decide)
  have r : M 23 [Dc 2 [7, 9]] (.tup [.agg [.int 2, .own 0 1 (Il [])], .own 1 1 (Il [7, 9]), .int 0]) := reset_ok 2 [7, 9] (by decide)
  have il : M 25 [Ds [7, 9], Ds [7, 9]] (.bool true) := ints_ok [7, 9] [7, 9]
  have lf : M 17 [Dc 2 [5, 7]] (.int 0) := left_ok 2 [5, 7]
  have rg : M 15 [Dc 2 [7, 9]] (.bool true) := right_ok 2 [7, 9]
  refine go8 rfl rfl fun hb => ?_
  refine ⟨_, n2, ?_⟩
  refine ⟨_, t5, ?_⟩
  refine ⟨_, t7, ?_⟩
  refine ⟨_, t9, ?_⟩
  refine ⟨_, t55, ?_⟩
  refine ⟨_, g, ?_⟩
  refine ⟨_, t79, ?_⟩
  refine ⟨_, r, ?_⟩
  refine ⟨_, n17, ?_⟩
  refine ⟨_, fun _ => il, ?_⟩
  refine ⟨_, fun _ => lf, ?_⟩
  refine ⟨_, fun _ => rg, ?_⟩
  exact ⟨⟨L.le_of_eq rfl, trivial⟩, trivial, rfl, rfl⟩
end Go.Proofs.Ytdaigbpaggnijaa
