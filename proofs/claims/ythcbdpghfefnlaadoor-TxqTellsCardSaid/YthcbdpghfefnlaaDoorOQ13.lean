/-
  Layer 13: contracts for queues that may be nil; the law TxqSame.
-/
import Derived.Test.YthcbdpghfefnlaaDoorOP13
set_option linter.unusedVariables false
set_option linter.unusedSimpArgs false
set_option maxRecDepth 100000
namespace Go.Proofs.YthcbdpghfefnlaaDoor
open Go Go.Proofs.YthcbdpghfefnlaaDoor.Abs

/-- a queue whose messages are nil if there are none -/
def Que.ml (q : Que) : Abs.L := match q.msgs with | [] => .nil | _ :: _ => .sl 7 (Ml q.msgs)
abbrev Que.N (q : Que) : Abs.V := .d (.agg [Abs.L.int q.lim, q.ml])
theorem ml_le (q : Que) : L.le q.ml (.sl 7 (Ml q.msgs)) := by
  obtain ⟨lim, ms⟩ := q
  cases ms with
  | nil => exact L.le_nil 7
  | cons m l => exact L.le_refl _
theorem le_ml {q : Que} (h : q.msgs ≠ []) : L.le (.sl 7 (Ml q.msgs)) q.ml := by
  obtain ⟨lim, ms⟩ := q
  cases ms with
  | nil => exact absurd rfl h
  | cons m l => exact L.le_refl _
theorem N_V {q : Que} {w : World} {g : G} {tk : Nat → Bool} {u : Value} (h : RepV w g tk q.N u) : RepV w g tk q.V u := by
  obtain ⟨vs, rfl, hs, hr⟩ := h.agg_inv
  refine .d _ _ ⟨vs, rfl, hs, fun i x u hx hu => ?_⟩
  match i, hx with
  | 0, hx => simp at hx; subst hx; exact hr 0 _ u rfl hu
  | 1, hx => simp at hx; subst hx; exact ml_le q _ _ _ (hr 1 _ u rfl hu)
theorem toN {k : FuncId} {bi : List (Nat × Box)} {q : Que} {ds : List V} {bo : List (Nat × Box)} {r : V} (h : MM k bi (q.V :: ds) bo r) : MM k bi (q.N :: ds) bo r := MM_arg1 h rfl fun _ _ _ _ => N_V
theorem toN2 {k : FuncId} {bi : List (Nat × Box)} {q : Que} {x : V} {ds : List V} {bo : List (Nat × Box)} {r : V} (h : MM k bi (x :: q.V :: ds) bo r) : MM k bi (x :: q.N :: ds) bo r :=
  MM_arg h rfl rfl fun i y y' hy hy' => by
    match i, hy, hy' with
    | 0, hy, hy' => simp at hy hy'; subst hy; subst hy'; exact fun _ _ _ _ h => h
    | 1, hy, hy' => simp at hy hy'; subst hy; subst hy'; exact fun _ _ _ _ => N_V
    | i + 2, hy, hy' => simp at hy hy'; rw [hy] at hy'; cases hy'; exact fun _ _ _ _ h => h
/-- a contract's result, with less said -/
theorem MM_res {k : FuncId} {bi : List (Nat × Box)} {ds : List V} {r r' : V} (h : MM k bi ds [] r) (h1 : V.toks r = []) (h2 : V.toks r' = []) (hle : ∀ w g u, RepV w g (isIn []) r u → RepV w g (isIn []) r' u) : MM k bi ds [] r' := by
  obtain ⟨a1, a2, a3⟩ := h
  have e : toksBx [] ++ V.toks r = ([] : List Nat) := by rw [h1]; rfl
  have e' : toksBx [] ++ V.toks r' = ([] : List Nat) := by rw [h2]; rfl
  refine ⟨a1, by rw [e']; exact List.nodup_nil, fun n w g vals hown hH hs ha => (a3 n w g vals hown hH hs ha).mono ?_⟩
  rintro x w' ⟨val, g', b1, b2, b3, b4⟩
  rw [e] at b2 b3
  refine ⟨val, g', b1, ?_, ?_, b4⟩
  · rw [e']; exact hle _ _ _ b2
  · rw [e']; exact b3
theorem V_N {q : Que} (h : q.msgs ≠ []) {w : World} {g : G} {tk : Nat → Bool} {u : Value} (hr : RepV w g tk q.V u) : RepV w g tk q.N u := by
  obtain ⟨vs, rfl, hs, hr⟩ := hr.agg_inv
  refine .d _ _ ⟨vs, rfl, hs, fun i x u hx hu => ?_⟩
  match i, hx with
  | 0, hx => simp at hx; subst hx; exact hr 0 _ u rfl hu
  | 1, hx => simp at hx; subst hx; exact le_ml h _ _ _ (hr 1 _ u rfl hu)
/-- put, where it is put -/
theorem putN_ok {q : Que} {m : Msg} (hq : q.msgs.length ≤ 1000000) {q' : Que} (h : putR q m = (q', 0)) (hne : q'.msgs ≠ []) : M 22 [q.N, m.V] (.tup [q'.N, .int 0]) := by
  have base : M 22 [q.N, m.V] (.tup [q'.V, .int 0]) := by
    obtain ⟨lim, ms⟩ := q
    cases ms with
    | nil => have := put_nil lim m; rw [h] at this; exact this
    | cons x l => have := put_cons ⟨lim, x :: l⟩ m hq (by simp); rw [h] at this; exact this
  refine MM_res base rfl rfl fun w g u hu => ?_
  obtain ⟨vs, rfl, hs, hr⟩ := hu.tup_inv
  refine .tup _ vs hs fun i x u hx hu => ?_
  match i, hx with
  | 0, hx => simp at hx; subst hx; exact V_N hne (hr 0 _ u rfl hu)
  | 1, hx => simp at hx; subst hx; exact hr 1 _ u rfl hu

/-! TxqSame -/
abbrev r0 : R6 := ⟨0, 0, 0, 0, 0, 0⟩
def msOf (raw : List R6) (i : Nat) : Msg := numd (raw.getD i r0) ((i + 1 : Nat) : Int)
def fillL (raw : List R6) (f : Nat → Nat) : Nat → List Msg
  | 0 => []
  | i + 1 => insQ (fillL raw f i) (msOf raw (f i))
abbrev fill (raw : List R6) (f : Nat → Nat) (i : Nat) : Que := ⟨12, fillL raw f i⟩
theorem fill_lim (raw : List R6) (f : Nat → Nat) (i : Nat) : (fill raw f i).lim = 12 := rfl
theorem insQ_ne (l : List Msg) (m : Msg) : insQ l m ≠ [] := by
  intro h
  have := (insQ_perm l m).length_eq
  rw [h] at this
  simp at this
theorem fill_spec (raw : List R6) (hr : ∀ r ∈ raw, r.ok) (f : Nat → Nat) (n : Nat) (hn : n ≤ 12) (hf : ∀ i, i < n → f i < raw.length ∧ f i < 12) (hj : ∀ i j, i < n → j < n → f i = f j → i = j) :
    ∀ i, i ≤ n → Good (fill raw f i) ∧ (fill raw f i).msgs.Perm ((List.range i).map fun j => msOf raw (f j)) ∧ (i < n → putR (fill raw f i) (msOf raw (f i)) = (fill raw f (i + 1), 0)) := by
  have step : ∀ i, i ≤ n → Good (fill raw f i) → (fill raw f i).msgs.Perm ((List.range i).map fun j => msOf raw (f j)) → i < n → putR (fill raw f i) (msOf raw (f i)) = (fill raw f (i + 1), 0) ∧ Good (fill raw f (i + 1)) := by
    intro i hi hg hp hlt
    have hrr := hf i hlt
    have hm : (msOf raw (f i)).right = true := by
      have e : raw.getD (f i) r0 = raw[f i]'hrr.1 := by simp [List.getD_eq_getElem?_getD, hrr.1]
      rw [msOf, e]
      exact numd_right (hr _ (List.getElem_mem hrr.1)) (by omega) (by omega)
    have hnn : (msOf raw (f i)).number ∉ nums (fill raw f i).msgs := by
      intro h
      obtain ⟨x, hx, e⟩ := List.mem_map.1 h
      obtain ⟨j, hj', rfl⟩ := List.mem_map.1 (hp.mem_iff.1 hx)
      have hj' : j < i := by simpa using hj'
      have e : (((f j + 1 : Nat) : Int)) = ((f i + 1 : Nat) : Int) := e
      have := hj j i (by omega) hlt (by omega)
      omega
    have hl : ((fill raw f i).msgs.length : Int) < (fill raw f i).lim := by
      have := hp.length_eq
      simp at this
      show ((fillL raw f i).length : Int) < 12
      omega
    have := hg.put hm hnn hl
    rw [fill_lim] at this
    exact this
  intro i
  induction i with
  | zero =>
    intro _
    have hg : Good (fill raw f 0) := Good.new (by rfl)
    exact ⟨hg, List.Perm.refl _, fun h => (step 0 (by omega) hg (List.Perm.refl _) h).1⟩
  | succ i ih =>
    intro hi
    obtain ⟨a, b, c⟩ := ih (by omega)
    have hg := (step i (by omega) a b (by omega)).2
    have hp : (fill raw f (i + 1)).msgs.Perm ((List.range (i + 1)).map fun j => msOf raw (f j)) := by
      rw [List.range_succ, List.map_append]
      exact (insQ_perm _ _).trans ((b.cons _).trans (List.perm_append_singleton _ _).symm)
    exact ⟨hg, hp, fun h => (step (i + 1) hi hg hp h).1⟩
end Go.Proofs.YthcbdpghfefnlaaDoor
