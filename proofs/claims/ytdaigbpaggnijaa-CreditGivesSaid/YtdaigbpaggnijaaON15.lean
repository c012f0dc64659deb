/-
  Layer 15: the law function CreditBounds.
-/
import Derived.Test.YtdaigbpaggnijaaOM15
set_option linter.unusedVariables false
set_option linter.unusedSimpArgs false
namespace Go.Proofs.Ytdaigbpaggnijaa
open Go Go.Proofs.Ytdaigbpaggnijaa.Abs

def Pl (l : List (Int × Int)) : List (List L) := l.map fun x => [.int x.1, .int x.2]
abbrev Dp (l : List (Int × Int)) : V := .d (.sl 2 (Pl l))
theorem Pl_length (l : List (Int × Int)) : (Pl l).length = l.length := by simp [Pl]
theorem Pl_get (l : List (Int × Int)) (k : Nat) : (Pl l)[k]? = (l[k]?).map fun x => [.int x.1, .int x.2] := by simp [Pl]

def bnum (x : Int × Int) : Int := IntKind.i64.wrap (1 + pick x.2 30)
theorem bnum_range (x : Int × Int) : 1 ≤ bnum x ∧ bnum x ≤ 30 := by
  have hp := pick_range (c := x.2) (n := 30) (by omega)
  rw [bnum, wrap64 (by omega) (by omega)]; omega
def bstep (w : Int) (l : List Int) (x : Int × Int) : List Int :=
  if pick x.1 3 > 0 then (if bnum x ∈ l then l else if (l.length : Int) = w then l else l ++ [bnum x]) else keeps l [bnum x]
def outs (w : Int) (raw : List (Int × Int)) (k : Nat) : List Int := (raw.take k).foldl (bstep w) []
theorem outs_succ (w : Int) (raw : List (Int × Int)) (k : Nat) (h : k < raw.length) : outs w raw (k + 1) = bstep w (outs w raw k) raw[k] := by
  rw [outs, List.take_succ_eq_append_getElem h, List.foldl_append]; rfl
theorem bstep_right {w : Int} {l : List Int} (h : right w l = true) (x : Int × Int) : right w (bstep w l x) = true := by
  have hn := bnum_range x
  rw [bstep]
  split
  · split
    · exact h
    · split
      · exact h
      · refine right_take ((takes_iff _ _ _).2 ⟨h, (number_iff _).2 ⟨hn.1, by omega⟩, by assumption, ?_⟩)
        rw [left_right h]; omega
  · exact right_keeps h
theorem outs_right {w : Int} (hw : 1 ≤ w ∧ w ≤ 16) (raw : List (Int × Int)) : ∀ k, k ≤ raw.length → right w (outs w raw k) = true
  | 0, _ => (right_iff _ _).2 ⟨by simp [outs], by simp [outs], hw.1, hw.2, by simp [outs]; omega⟩
  | k + 1, h => by rw [outs_succ w raw k h]; exact bstep_right (outs_right hw raw k (by omega)) _

/-- where a number was met among the first ones -/
def met (l : List Int) (n : Int) (j : Nat) : Int := if n ∈ l.take j then (l.idxOf n : Int) else -1
theorem met_succ {l : List Int} {n : Int} {j : Nat} (hd : l.Nodup) (hj : j < l.length) : met l n (j + 1) = if l[j] = n then (j : Int) else met l n j := by
  have e := List.take_succ_eq_append_getElem hj
  by_cases h : l[j] = n
  · rw [if_pos h, met, if_pos (by rw [e]; simp [h])]
    have := hd.idxOf_getElem j hj
    rw [h] at this
    rw [this]
  · rw [if_neg h, met, met, e]
    have : ¬ n = l[j] := fun h' => h h'.symm
    simp only [List.mem_append, List.mem_singleton, this, or_false]
theorem met_all (l : List Int) (n : Int) : met l n l.length = if n ∈ l then (l.idxOf n : Int) else -1 := by rw [met, List.take_length]
theorem keeps_erase {l : List Int} {n : Int} (hd : l.Nodup) (hn : n ∈ l) : l.take (l.idxOf n) ++ l.drop (l.idxOf n + 1) = keeps l [n] := by
  induction l with
  | nil => cases hn
  | cons a l ih =>
    rw [List.nodup_cons] at hd
    by_cases e : a = n
    · subst e
      have := keeps_one hd.1
      have h1 : (a :: l).idxOf a = 0 := by simp
      rw [h1]
      simp only [keeps, List.mem_singleton] at this ⊢
      rw [List.filter_cons, decide_eq_true rfl]
      exact this.symm
    · have hn' : n ∈ l := by
        rcases List.mem_cons.1 hn with h | h
        · exact absurd h.symm e
        · exact h
      have := ih hd.2 hn'
      have h0 : (a == n) = false := by simpa using e
      have h1 : (a :: l).idxOf n = l.idxOf n + 1 := by simp [List.idxOf_cons, h0]
      rw [h1]
      simp only [keeps] at this ⊢
      rw [List.filter_cons]
      simp only [List.mem_singleton, e, decide_false, Bool.not_false, if_true, List.take_succ_cons, List.drop_succ_cons, List.cons_append, this]
theorem keeps_two (l : List Int) (n : Int) : keeps l [n, n] = keeps l [n] := by
  simp [keeps]

set_option maxHeartbeats 2000000 in
set_option maxRecDepth 100000 in
theorem bounds_ok (window : Int) (raw : List (Int × Int)) (hw : In64 window) (hr : ∀ x ∈ raw, In64 x.1 ∧ In64 x.2) : M 4 [.int window, Dp raw] (.bool true) := by
  refine go4 rfl rfl fun hb => ?_
  have hlen : raw.length ≤ 9223372036854775807 := by have := (hb.1 1 _ rfl).1; simpa [Pl_length] using this
  have hcw := crW_range window
  refine ⟨_, awake_ok, ?_⟩
  refine ⟨_, pick_ok window 16 hw (by omega), ?_⟩
  have hW : 1 ≤ IntKind.i64.wrap (1 + pick window 16) ∧ IntKind.i64.wrap (1 + pick window 16) ≤ 16 := by
    have := pick_range (c := window) (n := 16) (by omega)
    rw [wrap64 (by omega) (by omega)]; omega
  have n1 := new_ok (IntKind.i64.wrap (1 + pick window 16))
  rw [if_pos hW, if_pos hW] at n1
  refine ⟨_, n1, ?_⟩
  generalize IntKind.i64.wrap (1 + pick window 16) = w at *
  refine ⟨fun h => absurd h (by decide), fun _ => ?_⟩
  refine ⟨Nat, fun k => ⟨[(1, Dp raw), (5, .bool true), (6, .int w), (7, .ref 999998 0), (9, .own 999001 1 (Il (outs w raw k))), (10, .int k)],
    ⟨[(999998, .cells [.int w, .own 999000 1 (Il (outs w raw k))])], [999000, 999001], 900000, 0⟩⟩, fun k => k ≤ raw.length ∧ k ≤ 40, fun k => raw.length - k, 0, ⟨Nat.zero_le _, Nat.zero_le _⟩, ?_, ?_⟩
  · exact ⟨⟨L.le_refl _, L.le_refl _, L.le_refl _, ⟨rfl, rfl⟩, rfl, L.le_refl _, trivial⟩, ⟨⟨L.le_refl _, ⟨rfl, L.le_refl _⟩, trivial⟩, trivial⟩, rfl, rfl⟩
  · rintro k ⟨hk, hk40⟩ _
    have hR := outs_right hW raw k hk
    have hsm := sm_right hR
    have hll := right_bounds hR
    obtain ⟨hnum, hnd, _⟩ := (right_iff _ _).1 hR
    refine ⟨fun h => ?_, fun h => ?_⟩
    · have hlt : k < raw.length ∧ k < 40 := by
        rw [Pl_length] at h
        by_cases h1 : (k : Int) < raw.length <;> simp [h1] at h
        omega
      obtain ⟨hlt, hlt40⟩ := hlt
      have hx := hr _ (List.getElem_mem hlt)
      have hget : ∃ j : Nat, (k : Int) = (j : Int) ∧ (Pl raw)[j]? = some [.int raw[k].1, .int raw[k].2] := ⟨k, rfl, by simp [Pl_get, hlt]⟩
      have inc : IntKind.i64.wrap ((k : Int) + 1) = ((k + 1 : Nat) : Int) := by rw [wrap64 (by omega) (by omega)]; simp
      have hbn := bnum_range raw[k]
      have hso := outs_succ w raw k hlt
      refine ⟨_, hget, ?_⟩
      refine ⟨1, ⟨rfl, by decide⟩, ?_⟩
      refine ⟨_, pick_ok raw[k].2 30 hx.2 (by omega), ?_⟩
      refine ⟨Nat, fun j => ⟨[(1, Dp raw), (5, .bool true), (6, .int w), (7, .ref 999998 0), (9, .own 999001 1 (Il (outs w raw k))), (10, .int k), (11, .int (bnum raw[k])), (12, .int (met (outs w raw k) (bnum raw[k]) j)), (13, .int j)],
        ⟨[(999998, .cells [.int w, .own 999000 1 (Il (outs w raw k))])], [999000, 999001], 900000, 0⟩⟩, fun j => j ≤ (outs w raw k).length, fun j => (outs w raw k).length - j, 0, Nat.zero_le _, ?_, ?_⟩
      · exact ⟨⟨L.le_refl _, L.le_refl _, L.le_refl _, ⟨rfl, rfl⟩, ⟨rfl, L.le_refl _⟩, L.le_refl _, L.le_refl _, L.le_of_eq (by simp [met]), L.le_refl _, trivial⟩, ⟨⟨L.le_refl _, ⟨rfl, L.le_refl _⟩, trivial⟩, trivial⟩, rfl, rfl⟩
      · generalize outs w raw k = l at *
        generalize hn : bnum raw[k] = n at *
        intro j hj _
        refine ⟨fun h => ?_, fun h => ?_⟩
        · have hjl : j < l.length := by simpa [Il_length] using h
          refine ⟨[.int l[j]], ⟨j, rfl, by simp [Il_get, hjl]⟩, ?_⟩
          have incj : IntKind.i64.wrap ((j : Int) + 1) = ((j + 1 : Nat) : Int) := by rw [wrap64 (by omega) (by omega)]; simp
          have hms := met_succ (n := n) hnd hjl
          refine ⟨fun h2 => ?_, fun h2 => ?_⟩
          · have e : l[j] = n := by simpa using h2
            rw [if_pos e] at hms
            refine ⟨j + 1, hjl, ?_, ?_⟩
            · show l.length - (j + 1) < l.length - j
              omega
            · exact ⟨⟨L.le_refl _, L.le_refl _, L.le_refl _, ⟨rfl, rfl⟩, ⟨rfl, L.le_refl _⟩, L.le_refl _, L.le_refl _, L.le_of_eq (by rw [hms]), L.le_of_eq (by rw [incj]), trivial⟩, ⟨⟨L.le_refl _, ⟨rfl, L.le_refl _⟩, trivial⟩, trivial⟩, rfl, rfl⟩
          · have e : ¬ l[j] = n := by simpa using h2
            rw [if_neg e] at hms
            refine ⟨j + 1, hjl, ?_, ?_⟩
            · show l.length - (j + 1) < l.length - j
              omega
            · exact ⟨⟨L.le_refl _, L.le_refl _, L.le_refl _, ⟨rfl, rfl⟩, ⟨rfl, L.le_refl _⟩, L.le_refl _, L.le_refl _, L.le_of_eq (by rw [hms]), L.le_of_eq (by rw [incj]), trivial⟩, ⟨⟨L.le_refl _, ⟨rfl, L.le_refl _⟩, trivial⟩, trivial⟩, rfl, rfl⟩
        · have hje : j = l.length := by
            have : ¬ ((j : Int) < (Il l).length) := by simpa using h
            rw [Il_length] at this; omega
          subst hje
          refine ⟨_, hget, ?_⟩
          refine ⟨0, ⟨rfl, by decide⟩, ?_⟩
          refine ⟨_, pick_ok raw[k].1 3 hx.1 (by omega), ?_⟩
          have hma := met_all l n
          generalize met l n l.length = m at *
          generalize ha : pick raw[k].1 3 = a at *
          have hbs : bstep w l raw[k] = if a > 0 then (if n ∈ l then l else if (l.length : Int) = w then l else l ++ [n]) else keeps l [n] := by rw [bstep, hn, ha]
          have hR' := bstep_right hR raw[k]
          have hll' := right_bounds hR'
          rw [hbs] at hR' hll' hso
          have wl : ∀ q : List Int, (q.length : Int) ≤ w → IntKind.i64.wrap (w - (q.length : Int)) = w - (q.length : Int) := fun q hq => wrap64 (by omega) (by omega)
          have htk := take_ok w l n hsm
          have hnum' : number n = true := (number_iff _).2 ⟨hbn.1, by omega⟩
          refine ⟨fun h => ?_, fun h => ?_⟩
          · have h0 : a > 0 := by simpa using h
            rw [if_pos h0] at hR' hll' hso
            refine ⟨_, htk, ?_⟩
            by_cases hm : n ∈ l
            · rw [if_pos hm] at hma hR' hll' hso
              have e1 : takes w l n = false := by simp [takes, hm]
              have e2 : takeE w l n = 42 := by simp [takeE, hR, hnum', hm]
              have wl := wl _ hll'.2.2
              rw [e1, e2]
              refine ⟨fun h => ?_, fun h => ?_⟩
              · refine ⟨fun h => absurd h (by decide), fun h => ?_⟩
                refine ⟨_, ints_ok l l, ?_⟩
                refine ⟨_, fun _ => left_ok w (l), ?_⟩
                refine ⟨_, fun _ => right_ok w (l), ?_⟩
                refine ⟨fun h => ?_, fun _ => ?_⟩
                · exfalso
                  rw [left_right hR', hR'] at h
                  simp [wl, Il_length] at h
                · refine ⟨k + 1, ⟨hlt, by omega⟩, ?_, ?_⟩
                  · show raw.length - (k + 1) < raw.length - k
                    omega
                  · exact ⟨⟨L.le_refl _, L.le_refl _, L.le_refl _, ⟨rfl, rfl⟩, ⟨rfl, L.le_of_eq (congrArg (fun q => L.sl 1 (Il q)) hso.symm)⟩, L.le_of_eq (by rw [inc]), trivial⟩, ⟨⟨L.le_refl _, ⟨rfl, L.le_of_eq (congrArg (fun q => L.sl 1 (Il q)) hso.symm)⟩, trivial⟩, trivial⟩, rfl, rfl⟩
              · exfalso
                simp at h
                omega
            · rw [if_neg hm] at hma hR' hll' hso
              refine ⟨fun h => ?_, fun h => ?_⟩
              · exfalso
                simp at h
                omega
              · by_cases hl : (l.length : Int) = w
                · rw [if_pos hl] at hR' hll' hso
                  have hz : left w l = 0 := by rw [left_right hR]; omega
                  have e1 : takes w l n = false := by simp [takes, hz]
                  have e2 : takeE w l n = 40 := by simp [takeE, hR, hnum', hm, hz]
                  have wl := wl _ hll'.2.2
                  rw [e1, e2]
                  refine ⟨fun h => ?_, fun h => ?_⟩
                  · refine ⟨fun h => absurd h (by decide), fun h => ?_⟩
                    refine ⟨_, ints_ok l l, ?_⟩
                    refine ⟨_, fun _ => left_ok w (l), ?_⟩
                    refine ⟨_, fun _ => right_ok w (l), ?_⟩
                    refine ⟨fun h => ?_, fun _ => ?_⟩
                    · exfalso
                      rw [left_right hR', hR'] at h
                      simp [wl, Il_length] at h
                    · refine ⟨k + 1, ⟨hlt, by omega⟩, ?_, ?_⟩
                      · show raw.length - (k + 1) < raw.length - k
                        omega
                      · exact ⟨⟨L.le_refl _, L.le_refl _, L.le_refl _, ⟨rfl, rfl⟩, ⟨rfl, L.le_of_eq (congrArg (fun q => L.sl 1 (Il q)) hso.symm)⟩, L.le_of_eq (by rw [inc]), trivial⟩, ⟨⟨L.le_refl _, ⟨rfl, L.le_of_eq (congrArg (fun q => L.sl 1 (Il q)) hso.symm)⟩, trivial⟩, trivial⟩, rfl, rfl⟩
                  · exfalso
                    rw [Il_length] at h
                    simp [hl] at h
                · rw [if_neg hl] at hR' hll' hso
                  have hz : left w l ≠ 0 := by rw [left_right hR]; omega
                  have e1 : takes w l n = true := (takes_iff _ _ _).2 ⟨hR, hnum', hm, hz⟩
                  have e2 : takeE w l n = 0 := by simp [takeE, hR, hnum', hm, hz]
                  have wl := wl _ hll'.2.2
                  have ei : Il l ++ [[L.int n]] = Il (l ++ [n]) := by simp [Il]
                  have eii : M 25 [Ds (l ++ [n]), .d (.l (.sl 1 (Il l ++ [[.int n]])))] (.bool true) := by rw [ei]; have := ints_ok (l ++ [n]) (l ++ [n]); simpa using this
                  have eil : (Il l ++ [[L.int n]]).length = (l ++ [n]).length := by simp [Il_length]
                  rw [e1, e2, if_pos rfl]
                  refine ⟨fun h => ?_, fun h => ?_⟩
                  · exfalso
                    rw [Il_length] at h
                    simp at h
                    exact hl h
                  · refine ⟨?_, ?_⟩
                    · show ((Il l).length + 1) * 8 ≤ _
                      rw [Il_length]; omega
                    · refine ⟨fun h => absurd h (by decide), fun h => ?_⟩
                      refine ⟨_, eii, ?_⟩
                      refine ⟨_, fun _ => left_ok w (l ++ [n]), ?_⟩
                      refine ⟨_, fun _ => right_ok w (l ++ [n]), ?_⟩
                      refine ⟨fun h => ?_, fun _ => ?_⟩
                      · exfalso
                        rw [left_right hR', hR'] at h
                        rw [show (Il l ++ [(D.l (L.lit (Value.int IntKind.i64 n))).cells]).length = (l ++ [n]).length from eil, wl] at h
                        simp at h
                      · refine ⟨k + 1, ⟨hlt, by omega⟩, ?_, ?_⟩
                        · show raw.length - (k + 1) < raw.length - k
                          omega
                        · exact ⟨⟨L.le_refl _, L.le_refl _, L.le_refl _, ⟨rfl, rfl⟩, ⟨rfl, L.le_of_eq (by rw [hso]; exact congrArg (L.sl 1) ei)⟩, L.le_of_eq (by rw [inc]), trivial⟩, ⟨⟨L.le_refl _, ⟨rfl, L.le_of_eq (congrArg (fun q => L.sl 1 (Il q)) hso.symm)⟩, trivial⟩, trivial⟩, rfl, rfl⟩
          · have h0 : ¬ a > 0 := by simpa using h
            rw [if_neg h0] at hR' hll' hso
            have hg := give_ok w l [n, n] hsm
            rw [giveL, hR, if_pos rfl, if_pos rfl, if_pos rfl, keeps_two] at hg
            have wl := wl _ hll'.2.2
            by_cases hm : n ∈ l
            · rw [if_pos hm] at hma
              have hk1 := keeps_len hnd hm
              have hk2 : (l.length : Int) - ((keeps l [n]).length : Int) = 1 := by omega
              have hk3 := keeps_erase hnd hm
              have hil : l.idxOf n < l.length := List.idxOf_lt_length_iff.2 hm
              rw [hk2] at hg
              refine ⟨_, hg, ?_⟩
              refine ⟨fun h => ?_, fun h => ?_⟩
              · exfalso
                have : m ≥ 0 := by omega
                simp [this] at h
              · refine ⟨fun h => ?_, fun h => ?_⟩
                · refine ⟨l.idxOf n, ⟨hma, by rw [Il_length]; omega⟩, ?_, l.idxOf n + 1, ⟨by rw [hma, wrap64 (by omega) (by omega)]; simp, by rw [Il_length]; omega⟩, ?_, ?_⟩
                  · show (0 + ((Il l).take (l.idxOf n)).length) * 8 ≤ _
                    rw [List.length_take, Il_length]; omega
                  · show (((Il l).take (l.idxOf n)).length + ((Il l).drop (l.idxOf n + 1)).length) * 8 ≤ _
                    rw [List.length_take, List.length_drop, Il_length]; omega
                  · have ei : (Il l).take (l.idxOf n) ++ (Il l).drop (l.idxOf n + 1) = Il (keeps l [n]) := by rw [Il_take, Il_drop, ← hk3]; simp [Il]
                    have eil : ((Il l).take (l.idxOf n) ++ (Il l).drop (l.idxOf n + 1)).length = (keeps l [n]).length := by rw [ei, Il_length]
                    have eii : M 25 [Ds (keeps l [n]), .d (.l (.sl 1 ([] ++ (Il l).take (l.idxOf n) ++ (Il l).drop (l.idxOf n + 1))))] (.bool true) := by rw [List.nil_append, ei]; have := ints_ok (keeps l [n]) (keeps l [n]); simpa using this
                    refine ⟨rfl, ?_⟩
                    refine ⟨_, eii, ?_⟩
                    refine ⟨_, fun _ => left_ok w (keeps l [n]), ?_⟩
                    refine ⟨_, fun _ => right_ok w (keeps l [n]), ?_⟩
                    refine ⟨fun h => ?_, fun _ => ?_⟩
                    · exfalso
                      rw [left_right hR', hR', show (([] : List (List L)) ++ (Il l).take (l.idxOf n) ++ (Il l).drop (l.idxOf n + 1)).length = (keeps l [n]).length from eil, wl] at h
                      simp at h
                    · refine ⟨k + 1, ⟨hlt, by omega⟩, ?_, ?_⟩
                      · show raw.length - (k + 1) < raw.length - k
                        omega
                      · exact ⟨⟨L.le_refl _, L.le_refl _, L.le_refl _, ⟨rfl, rfl⟩, ⟨rfl, L.le_of_eq (by rw [hso]; exact congrArg (L.sl 1) ei)⟩, L.le_of_eq (by rw [inc]), trivial⟩, ⟨⟨L.le_refl _, ⟨rfl, L.le_of_eq (congrArg (fun q => L.sl 1 (Il q)) hso.symm)⟩, trivial⟩, trivial⟩, rfl, rfl⟩
                · exfalso
                  simp at h
                  omega
            · rw [if_neg hm] at hma
              have hk1 := keeps_one hm
              rw [hk1] at hR' hll' hso hg wl
              have hk2 : (l.length : Int) - (l.length : Int) = 0 := by omega
              rw [hk2] at hg
              refine ⟨_, hg, ?_⟩
              refine ⟨fun h => ?_, fun h => ?_⟩
              · exfalso
                have : ¬ m ≥ 0 := by omega
                simp [this] at h
              · refine ⟨fun h => ?_, fun h => ?_⟩
                · exfalso
                  simp at h
                  omega
                · skip
                  refine ⟨_, ints_ok l l, ?_⟩
                  refine ⟨_, fun _ => left_ok w (l), ?_⟩
                  refine ⟨_, fun _ => right_ok w (l), ?_⟩
                  refine ⟨fun h => ?_, fun _ => ?_⟩
                  · exfalso
                    rw [left_right hR', hR'] at h
                    simp [wl, Il_length] at h
                  · refine ⟨k + 1, ⟨hlt, by omega⟩, ?_, ?_⟩
                    · show raw.length - (k + 1) < raw.length - k
                      omega
                    · exact ⟨⟨L.le_refl _, L.le_refl _, L.le_refl _, ⟨rfl, rfl⟩, ⟨rfl, L.le_of_eq (congrArg (fun q => L.sl 1 (Il q)) hso.symm)⟩, L.le_of_eq (by rw [inc]), trivial⟩, ⟨⟨L.le_refl _, ⟨rfl, L.le_of_eq (congrArg (fun q => L.sl 1 (Il q)) hso.symm)⟩, trivial⟩, trivial⟩, rfl, rfl⟩
    · have n2 := reset_ok w (outs w raw k) hsm
      rw [hR, if_pos rfl, if_pos rfl, if_pos rfl] at n2
      have hi : M 25 [Ds (outs w raw k), Ds (outs w raw k)] (.bool true) := by have := ints_ok (outs w raw k) (outs w raw k); simpa using this
      have hl := left_ok w []
      rw [left_right ((right_iff _ _).2 ⟨by simp, by simp, hW.1, hW.2, by simp; omega⟩)] at hl
      refine ⟨_, n2, ?_⟩
      refine ⟨_, fun _ => hi, ?_⟩
      refine ⟨_, fun _ => hl, ?_⟩
      refine ⟨⟨L.le_of_eq ?_, trivial⟩, trivial, rfl, rfl⟩
      simp
end Go.Proofs.Ytdaigbpaggnijaa
